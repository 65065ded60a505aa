/- the walks, part 1 -/
import Derived.Test.YtcgndadlcgnilaaGreatA11
set_option autoImplicit false
set_option linter.unusedSimpArgs false
set_option linter.unusedVariables false
set_option linter.unnecessarySimpa false
section
set_option maxHeartbeats 2000000
set_option maxRecDepth 10000
namespace Go.Av
open Go.Proofs
/-- slices.Clone[[]byte,byte] -/
theorem rs57 : Tryz.f57.results.toList = [.tmp 2] := rfl
def g57 (n : Nat) (a0 : List Int) : Option (List Int) := if a0.length ≤ 140737488355328 then some a0 else none
theorem c57 {B : Nat} {w0 : World} {n : Nat} {a0 : List Int} {ta0 : Tail} {H : AHeap} {L : List Item} {K : AV → AHeap → Prop} {r : List Int} (hS : Hv H L) (hg : g57 n a0 = some r) (hK : ∀ (q0 : Tail) (H' : AHeap), Hv H' (.tl q0 :: L) → K (.dl 1 (List.map (AV.int .u8) r) q0) H') : ACall Tryz.prog B w0 57 [.dl 1 (List.map (AV.int .u8) a0) ta0] H K := by
  refine ACall.wkR ?_
  unfold g57 at hg
  obtain ⟨hl, hg⟩ := guard_some hg
  obtain rfl := Option.some.inj hg
  refine ACall.enter Tryz.func57 (by kernel_rfl) rfl (eawp_sound noY_sound _ _ _ _ ?_)
  simp only [EVA, reduceIte, reduceCtorEq, Nat.reduceLT, Nat.reduceLeDiff, Int.reduceEq, Int.reduceLT, Int.reduceLE, Nat.reduceMul, Int.reduceToNat, Nat.reduceAdd, Int.reduceAdd, Int.reduceSub, Int.reduceMul, Int.reduceNeg, Tryz.ntmps57, rs57]
  refine Br.mk' (fun h => ⟨?_, ?_⟩) (fun h => ?_)
  · simp only [EVA, reduceIte, reduceCtorEq, Nat.reduceLT, Nat.reduceLeDiff, Int.reduceEq, Int.reduceLT, Int.reduceLE, Nat.reduceMul, Int.reduceToNat, Nat.reduceAdd, Int.reduceAdd, Int.reduceSub, Int.reduceMul, Int.reduceNeg, rs57, lateK_eq]
    have h0 : a0 = [] := List.map_eq_nil_iff.1 h
    subst h0
    exact ⟨_, (wkR.a (wkA.v (wkV.nilf _ _))), hK .full H (hS.free (.inl rfl) rfl)⟩
  · simp only [EVA, reduceIte, reduceCtorEq, Nat.reduceLT, Nat.reduceLeDiff, Int.reduceEq, Int.reduceLT, Int.reduceLE, Nat.reduceMul, Int.reduceToNat, Nat.reduceAdd, Int.reduceAdd, Int.reduceSub, Int.reduceMul, Int.reduceNeg, rs57, lateK_eq]
    refine app_nil apt67 (AppSrc.dl ty67 rfl) hS hl ?_
    intro tl H hS
    simp only [EVA, reduceIte, reduceCtorEq, Nat.reduceLT, Nat.reduceLeDiff, Int.reduceEq, Int.reduceLT, Int.reduceLE, Nat.reduceMul, Int.reduceToNat, Nat.reduceAdd, Int.reduceAdd, Int.reduceSub, Int.reduceMul, Int.reduceNeg, rs57]
    exact ⟨_, (wkR.a (wkA.refl _)), hK tl H hS⟩
  · simp only [EVA, reduceIte, reduceCtorEq, Nat.reduceLT, Nat.reduceLeDiff, Int.reduceEq, Int.reduceLT, Int.reduceLE, Nat.reduceMul, Int.reduceToNat, Nat.reduceAdd, Int.reduceAdd, Int.reduceSub, Int.reduceMul, Int.reduceNeg, rs57, lateK_eq]
    refine app_nil apt67 (AppSrc.dl ty67 rfl) hS hl ?_
    intro tl H hS
    simp only [EVA, reduceIte, reduceCtorEq, Nat.reduceLT, Nat.reduceLeDiff, Int.reduceEq, Int.reduceLT, Int.reduceLE, Nat.reduceMul, Int.reduceToNat, Nat.reduceAdd, Int.reduceAdd, Int.reduceSub, Int.reduceMul, Int.reduceNeg, rs57]
    exact ⟨_, (wkR.a (wkA.refl _)), hK tl H hS⟩
theorem c57m {B : Nat} {w0 : World} {a0 : List Int} {ta0 : Tail} {H : AHeap} {L : List Item} {K : AV → AHeap → Prop} {ρ : Type} {A C : Option ρ} {r : ρ} (hS : Hv H L) (hl : a0.length ≤ 140737488355328) (hg : (if a0 = [] then A else C) = some r) (hK0 : a0 = [] → A = some r → K (.dl 0 [] .full) H)
    (hK1 : a0 ≠ [] → C = some r → ∀ (id : Nat) (H' : AHeap), Hv H' (.obj id (.cells (List.map (AV.int .u8) a0)) :: L) → K (.sl 1 id 0 a0.length) H') : ACall Tryz.prog B w0 57 [.dl 1 (List.map (AV.int .u8) a0) ta0] H K := by
  by_cases h0 : a0 = []
  · rw [if_pos h0] at hg
    have hK := hK0 h0 hg
    subst h0
    refine ACall.wkR ?_
    refine ACall.enter Tryz.func57 (by kernel_rfl) rfl (eawp_sound noY_sound _ _ _ _ ?_)
    simp only [EVA, reduceIte, reduceCtorEq, Nat.reduceLT, Nat.reduceLeDiff, Int.reduceEq, Int.reduceLT, Int.reduceLE, Nat.reduceMul, Int.reduceToNat, Nat.reduceAdd, Int.reduceAdd, Int.reduceSub, Int.reduceMul, Int.reduceNeg, Tryz.ntmps57, rs57]
    refine Br.mk' (fun h => ⟨?_, ?_⟩) (fun h => absurd (by first | trivial | rfl) h)
    · simp only [EVA, reduceIte, reduceCtorEq, Nat.reduceLT, Nat.reduceLeDiff, Int.reduceEq, Int.reduceLT, Int.reduceLE, Nat.reduceMul, Int.reduceToNat, Nat.reduceAdd, Int.reduceAdd, Int.reduceSub, Int.reduceMul, Int.reduceNeg, rs57, lateK_eq]
      exact ⟨_, wkR.a (wkA.refl _), hK⟩
    · simp only [EVA, reduceIte, reduceCtorEq, Nat.reduceLT, Nat.reduceLeDiff, Int.reduceEq, Int.reduceLT, Int.reduceLE, Nat.reduceMul, Int.reduceToNat, Nat.reduceAdd, Int.reduceAdd, Int.reduceSub, Int.reduceMul, Int.reduceNeg, rs57, lateK_eq]
      refine ⟨_, wkD.refl _, .inl ⟨_, _, _, _, [], _, [], .full, ty67, rfl, ty5, rfl, rfl, by decide, srcA_dl ty67 rfl, rfl, .inl rfl, fun _ => ?_, fun h => absurd rfl h⟩⟩
      simp only [EVA, reduceIte, reduceCtorEq, Nat.reduceLT, Nat.reduceLeDiff, Int.reduceEq, Int.reduceLT, Int.reduceLE, Nat.reduceMul, Int.reduceToNat, Nat.reduceAdd, Int.reduceAdd, Int.reduceSub, Int.reduceMul, Int.reduceNeg, rs57]
      exact ⟨_, wkR.a (wkA.v (wkV.nilf _ _)), hK⟩
  · rw [if_neg h0] at hg
    refine ACall.enter Tryz.func57 (by kernel_rfl) rfl (eawp_sound noY_sound _ _ _ _ ?_)
    simp only [EVA, reduceIte, reduceCtorEq, Nat.reduceLT, Nat.reduceLeDiff, Int.reduceEq, Int.reduceLT, Int.reduceLE, Nat.reduceMul, Int.reduceToNat, Nat.reduceAdd, Int.reduceAdd, Int.reduceSub, Int.reduceMul, Int.reduceNeg, Tryz.ntmps57, rs57]
    have h1 : List.map (AV.int .u8) a0 ≠ [] := fun h => h0 (List.map_eq_nil_iff.1 h)
    refine Br.neg h1 ?_
    simp only [EVA, reduceIte, reduceCtorEq, Nat.reduceLT, Nat.reduceLeDiff, Int.reduceEq, Int.reduceLT, Int.reduceLE, Nat.reduceMul, Int.reduceToNat, Nat.reduceAdd, Int.reduceAdd, Int.reduceSub, Int.reduceMul, Int.reduceNeg, rs57, lateK_eq]
    refine AppE.mut ty67 rfl ty5 rfl rfl (by decide) (srcA_dl ty67 rfl) h1 (by rw [List.length_map]; exact Nat.le_trans (Nat.mul_le_mul_right _ hl) (by decide)) (by rw [List.length_map]; exact Nat.le_trans hl (by decide)) ?_
    rw [flat_one (AV.int .u8) (fun _ => rfl)]
    simp only [EVA, reduceIte, reduceCtorEq, Nat.reduceLT, Nat.reduceLeDiff, Int.reduceEq, Int.reduceLT, Int.reduceLE, Nat.reduceMul, Int.reduceToNat, Nat.reduceAdd, Int.reduceAdd, Int.reduceSub, Int.reduceMul, Int.reduceNeg, rs57]
    exact hK1 h0 hg H.length _ (hS.pushO _)
/-- slices.Clone[[]uint64,uint64] -/
theorem rs62 : Tryz.f62.results.toList = [.tmp 2] := rfl
def g62 (n : Nat) (a0 : List Int) : Option (List Int) := if a0.length ≤ 17592186044416 then some a0 else none
theorem c62 {B : Nat} {w0 : World} {n : Nat} {a0 : List Int} {ta0 : Tail} {H : AHeap} {L : List Item} {K : AV → AHeap → Prop} {r : List Int} (hS : Hv H L) (hg : g62 n a0 = some r) (hK : ∀ (q0 : Tail) (H' : AHeap), Hv H' (.tl q0 :: L) → K (.dl 1 (List.map (AV.int .u64) r) q0) H') : ACall Tryz.prog B w0 62 [.dl 1 (List.map (AV.int .u64) a0) ta0] H K := by
  refine ACall.wkR ?_
  unfold g62 at hg
  obtain ⟨hl, hg⟩ := guard_some hg
  obtain rfl := Option.some.inj hg
  refine ACall.enter Tryz.func62 (by kernel_rfl) rfl (eawp_sound noY_sound _ _ _ _ ?_)
  simp only [EVA, reduceIte, reduceCtorEq, Nat.reduceLT, Nat.reduceLeDiff, Int.reduceEq, Int.reduceLT, Int.reduceLE, Nat.reduceMul, Int.reduceToNat, Nat.reduceAdd, Int.reduceAdd, Int.reduceSub, Int.reduceMul, Int.reduceNeg, Tryz.ntmps62, rs62]
  refine Br.mk' (fun h => ⟨?_, ?_⟩) (fun h => ?_)
  · simp only [EVA, reduceIte, reduceCtorEq, Nat.reduceLT, Nat.reduceLeDiff, Int.reduceEq, Int.reduceLT, Int.reduceLE, Nat.reduceMul, Int.reduceToNat, Nat.reduceAdd, Int.reduceAdd, Int.reduceSub, Int.reduceMul, Int.reduceNeg, rs62, lateK_eq]
    have h0 : a0 = [] := List.map_eq_nil_iff.1 h
    subst h0
    exact ⟨_, (wkR.a (wkA.v (wkV.nilf _ _))), hK .full H (hS.free (.inl rfl) rfl)⟩
  · simp only [EVA, reduceIte, reduceCtorEq, Nat.reduceLT, Nat.reduceLeDiff, Int.reduceEq, Int.reduceLT, Int.reduceLE, Nat.reduceMul, Int.reduceToNat, Nat.reduceAdd, Int.reduceAdd, Int.reduceSub, Int.reduceMul, Int.reduceNeg, rs62, lateK_eq]
    refine app_nil apt27 (AppSrc.dl ty27 rfl) hS hl ?_
    intro tl H hS
    simp only [EVA, reduceIte, reduceCtorEq, Nat.reduceLT, Nat.reduceLeDiff, Int.reduceEq, Int.reduceLT, Int.reduceLE, Nat.reduceMul, Int.reduceToNat, Nat.reduceAdd, Int.reduceAdd, Int.reduceSub, Int.reduceMul, Int.reduceNeg, rs62]
    exact ⟨_, (wkR.a (wkA.refl _)), hK tl H hS⟩
  · simp only [EVA, reduceIte, reduceCtorEq, Nat.reduceLT, Nat.reduceLeDiff, Int.reduceEq, Int.reduceLT, Int.reduceLE, Nat.reduceMul, Int.reduceToNat, Nat.reduceAdd, Int.reduceAdd, Int.reduceSub, Int.reduceMul, Int.reduceNeg, rs62, lateK_eq]
    refine app_nil apt27 (AppSrc.dl ty27 rfl) hS hl ?_
    intro tl H hS
    simp only [EVA, reduceIte, reduceCtorEq, Nat.reduceLT, Nat.reduceLeDiff, Int.reduceEq, Int.reduceLT, Int.reduceLE, Nat.reduceMul, Int.reduceToNat, Nat.reduceAdd, Int.reduceAdd, Int.reduceSub, Int.reduceMul, Int.reduceNeg, rs62]
    exact ⟨_, (wkR.a (wkA.refl _)), hK tl H hS⟩
theorem c62m {B : Nat} {w0 : World} {a0 : List Int} {ta0 : Tail} {H : AHeap} {L : List Item} {K : AV → AHeap → Prop} {ρ : Type} {A C : Option ρ} {r : ρ} (hS : Hv H L) (hl : a0.length ≤ 17592186044416) (hg : (if a0 = [] then A else C) = some r) (hK0 : a0 = [] → A = some r → K (.dl 0 [] .full) H)
    (hK1 : a0 ≠ [] → C = some r → ∀ (id : Nat) (H' : AHeap), Hv H' (.obj id (.cells (List.map (AV.int .u64) a0)) :: L) → K (.sl 1 id 0 a0.length) H') : ACall Tryz.prog B w0 62 [.dl 1 (List.map (AV.int .u64) a0) ta0] H K := by
  by_cases h0 : a0 = []
  · rw [if_pos h0] at hg
    have hK := hK0 h0 hg
    subst h0
    refine ACall.wkR ?_
    refine ACall.enter Tryz.func62 (by kernel_rfl) rfl (eawp_sound noY_sound _ _ _ _ ?_)
    simp only [EVA, reduceIte, reduceCtorEq, Nat.reduceLT, Nat.reduceLeDiff, Int.reduceEq, Int.reduceLT, Int.reduceLE, Nat.reduceMul, Int.reduceToNat, Nat.reduceAdd, Int.reduceAdd, Int.reduceSub, Int.reduceMul, Int.reduceNeg, Tryz.ntmps62, rs62]
    refine Br.mk' (fun h => ⟨?_, ?_⟩) (fun h => absurd (by first | trivial | rfl) h)
    · simp only [EVA, reduceIte, reduceCtorEq, Nat.reduceLT, Nat.reduceLeDiff, Int.reduceEq, Int.reduceLT, Int.reduceLE, Nat.reduceMul, Int.reduceToNat, Nat.reduceAdd, Int.reduceAdd, Int.reduceSub, Int.reduceMul, Int.reduceNeg, rs62, lateK_eq]
      exact ⟨_, wkR.a (wkA.refl _), hK⟩
    · simp only [EVA, reduceIte, reduceCtorEq, Nat.reduceLT, Nat.reduceLeDiff, Int.reduceEq, Int.reduceLT, Int.reduceLE, Nat.reduceMul, Int.reduceToNat, Nat.reduceAdd, Int.reduceAdd, Int.reduceSub, Int.reduceMul, Int.reduceNeg, rs62, lateK_eq]
      refine ⟨_, wkD.refl _, .inl ⟨_, _, _, _, [], _, [], .full, ty27, rfl, ty53, rfl, rfl, by decide, srcA_dl ty27 rfl, rfl, .inl rfl, fun _ => ?_, fun h => absurd rfl h⟩⟩
      simp only [EVA, reduceIte, reduceCtorEq, Nat.reduceLT, Nat.reduceLeDiff, Int.reduceEq, Int.reduceLT, Int.reduceLE, Nat.reduceMul, Int.reduceToNat, Nat.reduceAdd, Int.reduceAdd, Int.reduceSub, Int.reduceMul, Int.reduceNeg, rs62]
      exact ⟨_, wkR.a (wkA.v (wkV.nilf _ _)), hK⟩
  · rw [if_neg h0] at hg
    refine ACall.enter Tryz.func62 (by kernel_rfl) rfl (eawp_sound noY_sound _ _ _ _ ?_)
    simp only [EVA, reduceIte, reduceCtorEq, Nat.reduceLT, Nat.reduceLeDiff, Int.reduceEq, Int.reduceLT, Int.reduceLE, Nat.reduceMul, Int.reduceToNat, Nat.reduceAdd, Int.reduceAdd, Int.reduceSub, Int.reduceMul, Int.reduceNeg, Tryz.ntmps62, rs62]
    have h1 : List.map (AV.int .u64) a0 ≠ [] := fun h => h0 (List.map_eq_nil_iff.1 h)
    refine Br.neg h1 ?_
    simp only [EVA, reduceIte, reduceCtorEq, Nat.reduceLT, Nat.reduceLeDiff, Int.reduceEq, Int.reduceLT, Int.reduceLE, Nat.reduceMul, Int.reduceToNat, Nat.reduceAdd, Int.reduceAdd, Int.reduceSub, Int.reduceMul, Int.reduceNeg, rs62, lateK_eq]
    refine AppE.mut ty27 rfl ty53 rfl rfl (by decide) (srcA_dl ty27 rfl) h1 (by rw [List.length_map]; exact Nat.le_trans (Nat.mul_le_mul_right _ hl) (by decide)) (by rw [List.length_map]; exact Nat.le_trans hl (by decide)) ?_
    rw [flat_one (AV.int .u64) (fun _ => rfl)]
    simp only [EVA, reduceIte, reduceCtorEq, Nat.reduceLT, Nat.reduceLeDiff, Int.reduceEq, Int.reduceLT, Int.reduceLE, Nat.reduceMul, Int.reduceToNat, Nat.reduceAdd, Int.reduceAdd, Int.reduceSub, Int.reduceMul, Int.reduceNeg, rs62]
    exact hK1 h0 hg H.length _ (hS.pushO _)
/-- slices.Clone[[]int,int] -/
theorem rs90 : Tryz.f90.results.toList = [.tmp 2] := rfl
def g90 (n : Nat) (a0 : List Int) : Option (List Int) := if a0.length ≤ 17592186044416 then some a0 else none
theorem c90 {B : Nat} {w0 : World} {n : Nat} {a0 : List Int} {ta0 : Tail} {H : AHeap} {L : List Item} {K : AV → AHeap → Prop} {r : List Int} (hS : Hv H L) (hg : g90 n a0 = some r) (hK : ∀ (q0 : Tail) (H' : AHeap), Hv H' (.tl q0 :: L) → K (.dl 1 (List.map (AV.int .i64) r) q0) H') : ACall Tryz.prog B w0 90 [.dl 1 (List.map (AV.int .i64) a0) ta0] H K := by
  refine ACall.wkR ?_
  unfold g90 at hg
  obtain ⟨hl, hg⟩ := guard_some hg
  obtain rfl := Option.some.inj hg
  refine ACall.enter Tryz.func90 (by kernel_rfl) rfl (eawp_sound noY_sound _ _ _ _ ?_)
  simp only [EVA, reduceIte, reduceCtorEq, Nat.reduceLT, Nat.reduceLeDiff, Int.reduceEq, Int.reduceLT, Int.reduceLE, Nat.reduceMul, Int.reduceToNat, Nat.reduceAdd, Int.reduceAdd, Int.reduceSub, Int.reduceMul, Int.reduceNeg, Tryz.ntmps90, rs90]
  refine Br.mk' (fun h => ⟨?_, ?_⟩) (fun h => ?_)
  · simp only [EVA, reduceIte, reduceCtorEq, Nat.reduceLT, Nat.reduceLeDiff, Int.reduceEq, Int.reduceLT, Int.reduceLE, Nat.reduceMul, Int.reduceToNat, Nat.reduceAdd, Int.reduceAdd, Int.reduceSub, Int.reduceMul, Int.reduceNeg, rs90, lateK_eq]
    have h0 : a0 = [] := List.map_eq_nil_iff.1 h
    subst h0
    exact ⟨_, (wkR.a (wkA.v (wkV.nilf _ _))), hK .full H (hS.free (.inl rfl) rfl)⟩
  · simp only [EVA, reduceIte, reduceCtorEq, Nat.reduceLT, Nat.reduceLeDiff, Int.reduceEq, Int.reduceLT, Int.reduceLE, Nat.reduceMul, Int.reduceToNat, Nat.reduceAdd, Int.reduceAdd, Int.reduceSub, Int.reduceMul, Int.reduceNeg, rs90, lateK_eq]
    refine app_nil apt22 (AppSrc.dl ty22 rfl) hS hl ?_
    intro tl H hS
    simp only [EVA, reduceIte, reduceCtorEq, Nat.reduceLT, Nat.reduceLeDiff, Int.reduceEq, Int.reduceLT, Int.reduceLE, Nat.reduceMul, Int.reduceToNat, Nat.reduceAdd, Int.reduceAdd, Int.reduceSub, Int.reduceMul, Int.reduceNeg, rs90]
    exact ⟨_, (wkR.a (wkA.refl _)), hK tl H hS⟩
  · simp only [EVA, reduceIte, reduceCtorEq, Nat.reduceLT, Nat.reduceLeDiff, Int.reduceEq, Int.reduceLT, Int.reduceLE, Nat.reduceMul, Int.reduceToNat, Nat.reduceAdd, Int.reduceAdd, Int.reduceSub, Int.reduceMul, Int.reduceNeg, rs90, lateK_eq]
    refine app_nil apt22 (AppSrc.dl ty22 rfl) hS hl ?_
    intro tl H hS
    simp only [EVA, reduceIte, reduceCtorEq, Nat.reduceLT, Nat.reduceLeDiff, Int.reduceEq, Int.reduceLT, Int.reduceLE, Nat.reduceMul, Int.reduceToNat, Nat.reduceAdd, Int.reduceAdd, Int.reduceSub, Int.reduceMul, Int.reduceNeg, rs90]
    exact ⟨_, (wkR.a (wkA.refl _)), hK tl H hS⟩
theorem c90m {B : Nat} {w0 : World} {a0 : List Int} {ta0 : Tail} {H : AHeap} {L : List Item} {K : AV → AHeap → Prop} {ρ : Type} {A C : Option ρ} {r : ρ} (hS : Hv H L) (hl : a0.length ≤ 17592186044416) (hg : (if a0 = [] then A else C) = some r) (hK0 : a0 = [] → A = some r → K (.dl 0 [] .full) H)
    (hK1 : a0 ≠ [] → C = some r → ∀ (id : Nat) (H' : AHeap), Hv H' (.obj id (.cells (List.map (AV.int .i64) a0)) :: L) → K (.sl 1 id 0 a0.length) H') : ACall Tryz.prog B w0 90 [.dl 1 (List.map (AV.int .i64) a0) ta0] H K := by
  by_cases h0 : a0 = []
  · rw [if_pos h0] at hg
    have hK := hK0 h0 hg
    subst h0
    refine ACall.wkR ?_
    refine ACall.enter Tryz.func90 (by kernel_rfl) rfl (eawp_sound noY_sound _ _ _ _ ?_)
    simp only [EVA, reduceIte, reduceCtorEq, Nat.reduceLT, Nat.reduceLeDiff, Int.reduceEq, Int.reduceLT, Int.reduceLE, Nat.reduceMul, Int.reduceToNat, Nat.reduceAdd, Int.reduceAdd, Int.reduceSub, Int.reduceMul, Int.reduceNeg, Tryz.ntmps90, rs90]
    refine Br.mk' (fun h => ⟨?_, ?_⟩) (fun h => absurd (by first | trivial | rfl) h)
    · simp only [EVA, reduceIte, reduceCtorEq, Nat.reduceLT, Nat.reduceLeDiff, Int.reduceEq, Int.reduceLT, Int.reduceLE, Nat.reduceMul, Int.reduceToNat, Nat.reduceAdd, Int.reduceAdd, Int.reduceSub, Int.reduceMul, Int.reduceNeg, rs90, lateK_eq]
      exact ⟨_, wkR.a (wkA.refl _), hK⟩
    · simp only [EVA, reduceIte, reduceCtorEq, Nat.reduceLT, Nat.reduceLeDiff, Int.reduceEq, Int.reduceLT, Int.reduceLE, Nat.reduceMul, Int.reduceToNat, Nat.reduceAdd, Int.reduceAdd, Int.reduceSub, Int.reduceMul, Int.reduceNeg, rs90, lateK_eq]
      refine ⟨_, wkD.refl _, .inl ⟨_, _, _, _, [], _, [], .full, ty22, rfl, ty3, rfl, rfl, by decide, srcA_dl ty22 rfl, rfl, .inl rfl, fun _ => ?_, fun h => absurd rfl h⟩⟩
      simp only [EVA, reduceIte, reduceCtorEq, Nat.reduceLT, Nat.reduceLeDiff, Int.reduceEq, Int.reduceLT, Int.reduceLE, Nat.reduceMul, Int.reduceToNat, Nat.reduceAdd, Int.reduceAdd, Int.reduceSub, Int.reduceMul, Int.reduceNeg, rs90]
      exact ⟨_, wkR.a (wkA.v (wkV.nilf _ _)), hK⟩
  · rw [if_neg h0] at hg
    refine ACall.enter Tryz.func90 (by kernel_rfl) rfl (eawp_sound noY_sound _ _ _ _ ?_)
    simp only [EVA, reduceIte, reduceCtorEq, Nat.reduceLT, Nat.reduceLeDiff, Int.reduceEq, Int.reduceLT, Int.reduceLE, Nat.reduceMul, Int.reduceToNat, Nat.reduceAdd, Int.reduceAdd, Int.reduceSub, Int.reduceMul, Int.reduceNeg, Tryz.ntmps90, rs90]
    have h1 : List.map (AV.int .i64) a0 ≠ [] := fun h => h0 (List.map_eq_nil_iff.1 h)
    refine Br.neg h1 ?_
    simp only [EVA, reduceIte, reduceCtorEq, Nat.reduceLT, Nat.reduceLeDiff, Int.reduceEq, Int.reduceLT, Int.reduceLE, Nat.reduceMul, Int.reduceToNat, Nat.reduceAdd, Int.reduceAdd, Int.reduceSub, Int.reduceMul, Int.reduceNeg, rs90, lateK_eq]
    refine AppE.mut ty22 rfl ty3 rfl rfl (by decide) (srcA_dl ty22 rfl) h1 (by rw [List.length_map]; exact Nat.le_trans (Nat.mul_le_mul_right _ hl) (by decide)) (by rw [List.length_map]; exact Nat.le_trans hl (by decide)) ?_
    rw [flat_one (AV.int .i64) (fun _ => rfl)]
    simp only [EVA, reduceIte, reduceCtorEq, Nat.reduceLT, Nat.reduceLeDiff, Int.reduceEq, Int.reduceLT, Int.reduceLE, Nat.reduceMul, Int.reduceToNat, Nat.reduceAdd, Int.reduceAdd, Int.reduceSub, Int.reduceMul, Int.reduceNeg, rs90]
    exact hK1 h0 hg H.length _ (hS.pushO _)
/-- slices.Grow[[]skymosaic/proof.Proof,skymosaic/proof.Proof] -/
theorem rs93 : Tryz.f93.results.toList = [.tmp 4] := rfl
def g93 (n : Nat) (a1 : Int) : Option (List S1) := if 0 ≤ a1 ∧ a1 ≤ 1599289640401 then some [] else none
theorem c93 {B : Nat} {w0 : World} {n : Nat} {a1 : Int} {H : AHeap} {L : List Item} {K : AV → AHeap → Prop} {r : List S1} (hS : Hv H L) (hg : g93 n a1 = some r) (hK : ∀ (q0 : Tail) (H' : AHeap), Hv H' (.tl q0 :: L) → K (.dl 7 (List.map encS1 r) q0) H') : ACall Tryz.prog B w0 93 [.dl 0 [] .full, .int .i64 a1] H K := by
  refine ACall.rel ?_
  unfold g93 at hg
  obtain ⟨hn, hg⟩ := guard_some hg
  obtain rfl := Option.some.inj hg
  have hw : IntKind.i64.wrap a1 = a1 := by rw [wrap_i64] <;> omega
  refine ACall.enter Tryz.func93 (by kernel_rfl) rfl (eawp_sound noY_sound _ _ _ _ ?_)
  simp only [EVA, reduceIte, reduceCtorEq, Nat.reduceLT, Nat.reduceLeDiff, Int.reduceEq, Int.reduceLT, Int.reduceLE, Nat.reduceMul, Int.reduceToNat, Nat.reduceAdd, Int.reduceAdd, Int.reduceSub, Int.reduceMul, Int.reduceNeg, Tryz.ntmps93, rs93]
  refine Br.no (by omega) ?_
  simp only [EVA, reduceIte, reduceCtorEq, Nat.reduceLT, Nat.reduceLeDiff, Int.reduceEq, Int.reduceLT, Int.reduceLE, Nat.reduceMul, Int.reduceToNat, Nat.reduceAdd, Int.reduceAdd, Int.reduceSub, Int.reduceMul, Int.reduceNeg, rs93, (show IntKind.i64.wrap 0 = 0 from rfl), Int.sub_zero, hw]
  refine Br.go (fun h => ?_) (fun h => ?_)
  · simp only [EVA, reduceIte, reduceCtorEq, Nat.reduceLT, Nat.reduceLeDiff, Int.reduceEq, Int.reduceLT, Int.reduceLE, Nat.reduceMul, Int.reduceToNat, Nat.reduceAdd, Int.reduceAdd, Int.reduceSub, Int.reduceMul, Int.reduceNeg, rs93, cutTail]
    refine AppE.zeros ty63 rfl ty64 rfl rfl rfl (by decide) ty3 rfl h (by show a1.toNat * 88 ≤ 140737488355328; omega) (by omega) ?_
    simp only [EVA, reduceIte, reduceCtorEq, Nat.reduceLT, Nat.reduceLeDiff, Int.reduceEq, Int.reduceLT, Int.reduceLE, Nat.reduceMul, Int.reduceToNat, Nat.reduceAdd, Int.reduceAdd, Int.reduceSub, Int.reduceMul, Int.reduceNeg, rs93]
    refine .inr ⟨_, _, _, rfl, get_new _ _, ?_⟩
    rw [set_new]
    exact hK _ _ (hS.push .tok (x := .tl (.tok H.length)) (.inr ⟨_, rfl, get_new _ _⟩) (fun i h => by cases h; rfl))
  · simp only [EVA, reduceIte, reduceCtorEq, Nat.reduceLT, Nat.reduceLeDiff, Int.reduceEq, Int.reduceLT, Int.reduceLE, Nat.reduceMul, Int.reduceToNat, Nat.reduceAdd, Int.reduceAdd, Int.reduceSub, Int.reduceMul, Int.reduceNeg, rs93]
    exact .inl ⟨_, wkR.a (wkA.v (wkV.nilf _ _)), hK _ _ (hS.free (.inl rfl) rfl)⟩
/-- skymosaic/skymosaicref01.Around -/
theorem rs7 : Tryz.f7.results.toList = [.tmp 4] := rfl
def g7 (n : Nat) (a0 : Int) (a1 : Int) : Option (Int) := if a0 < 0 then (if ¬ a1 = 0 then (some (Int.tmod (IntKind.i64.wrap (0 - (IntKind.i64.wrap (a0 + 1)))) a1)) else none) else (if ¬ a1 = 0 then (some (Int.tmod a0 a1)) else none)
theorem c7 {B : Nat} {w0 : World} {n : Nat} {a0 : Int} {a1 : Int} {H : AHeap} {L : List Item} {K : AV → AHeap → Prop} {r : (Int)} (hS : Hv H (L)) (hg : g7 n a0 a1 = some r) (hK : ∀ (H' : AHeap), Hv H' (L) → K (.int .i64 r) H') : ACall Tryz.prog B w0 7 [.int .i64 a0, .int .i64 a1] H K := by
  refine ACall.ret ?_
  unfold g7 at hg
  refine ACall.enter Tryz.func7 (by kernel_rfl) rfl (eawp_sound noY_sound _ _ _ _ ?_)
  have hF := True.intro
  have F := hS.facts
  have h0 := True.intro
  repeat' ((first
    | (clear h0)
    | (with_reducible exact noneE hg)
    | ((with_reducible refine Br.iteB hg (fun h hg => ?_) (fun h hg => ?_)) <;> replace hF := And.intro h hF)
    | ((with_reducible refine Br.iteP hg (fun h hg => ?_) (fun h hg => ?_)) <;> replace hF := And.intro h hF)
    | ((with_reducible refine branchB hg (fun h hg => ?_) (fun h hg => ?_)) <;> replace hF := And.intro h hF)
    | ((with_reducible refine atRet ?_); (with_reducible replace hg := Option.some.inj hg); subst hg; exact (RetK.go (hK ) (by first | exact rR | exact rT | exact rF | exact rN | exact rG (by repeat first | exact kZ | apply kR | apply kF | apply kN | apply kE | apply kI | apply kT | apply kU) | exact rU (by repeat first | exact aZ | apply aR | apply aF | apply aN | apply aT | refine aG (by (repeat first | exact kZ | apply kR | apply kF | apply kN | apply kE | apply kI | apply kT | apply kU)) ?_)) hS (by repeat first | exact nD | (apply nT; (· (repeat first | exact pH | apply pT))) | (apply nW; (· (repeat first | exact pH | apply pT)); (· (repeat first | exact kZ | apply kR | apply kF | apply kN | apply kE | apply kI | apply kT | apply kU))) | apply nF | apply nX)))
    | (simp only [hF, reduceIte] at hg)) <;> ((repeat ((with_reducible first | replace hg := guardN hg | replace hg := guardS3 hg | replace hg := guardS2 hg | replace hg := guardS1 hg | replace hg := gd4 hg | replace hg := gd3 hg | replace hg := gd2 hg | replace hg := gd1 hg); obtain ⟨h, hg⟩ := hg; replace hF := And.intro h hF)); replace F := hS.facts; (try simp only [Facts_obj, Facts_tl, Facts_own] at F); try simp only [EVA, reduceIte, reduceCtorEq, Nat.reduceLT, Nat.reduceLeDiff, Int.reduceEq, Int.reduceLT, Int.reduceLE, Nat.reduceMul, Int.reduceToNat, Nat.reduceAdd, Int.reduceAdd, Int.reduceSub, Int.reduceMul, Int.reduceNeg, Tryz.ntmps7, rs7, hF, F]))
/-- skymosaic/skymosaicref38.Versions -/
def l8_0 (n : Nat) (a0 : List Int) (a1 : Int) : Nat → List S2 → List S2 → Int → Int → Option (List S2 × List S2)
  | 0, _, _, _, _ => none
  | k7 + 1, x1, x3, x5, x6 => if (IntKind.i64.wrap (x6 + 1)) < (a0.length : Int) then (if x6 < 8 then (if (0 : Int) ≤ x6 ∧ x6 < (a0.length : Int) then ((g7 n (rd a0 x6) 1000).bind fun v13 => if (0 : Int) ≤ (Int.tmod (IntKind.i64.wrap (Int.tdiv v13 3)) 2) ∧ (Int.tmod (IntKind.i64.wrap (Int.tdiv v13 3)) 2) < 2 then (if (0 : Int) ≤ (IntKind.i64.wrap (x6 + 1)) ∧ (IntKind.i64.wrap (x6 + 1)) < (a0.length : Int) then (if (0 : Int) ≤ (IntKind.i64.wrap (x6 + 1)) ∧ (IntKind.i64.wrap (x6 + 1)) < (a0.length : Int) then ((g7 n (rd a0 (IntKind.i64.wrap (x6 + 1))) 60).bind fun v28 => if v28 = 0 then (if x1.length + 1 ≤ 2199023255552 then (if x3.length + 1 ≤ 2199023255552 then ((l8_0 n a0 a1 k7) (x1 ++ ([(⟨IntKind.i64.wrap ((IntKind.i64.wrap (x5 + 1)) + (Int.tmod v13 3)), rd ([[109, 97, 105, 110], [98, 45, 49]] : List (List UInt8)) (Int.tmod (IntKind.i64.wrap (Int.tdiv v13 3)) 2), Int.tmod v13 9, Int.tmod v13 7, IntKind.i64.wrap ((Int.tmod v13 4) - 2), IntKind.u64.wrap v13, false⟩ : S2)] : List S2)) (x3 ++ ([(⟨IntKind.i64.wrap (50 + (IntKind.i64.wrap ((IntKind.i64.wrap (x5 + 1)) + (Int.tmod v13 3)))), rd ([[109, 97, 105, 110], [98, 45, 49]] : List (List UInt8)) (Int.tmod (IntKind.i64.wrap (Int.tdiv v13 3)) 2), Int.tmod v13 9, a1, IntKind.i64.wrap ((Int.tmod v13 4) - 2), IntKind.u64.wrap (rd a0 (IntKind.i64.wrap (x6 + 1))), false⟩ : S2)] : List S2)) (IntKind.i64.wrap ((IntKind.i64.wrap (x5 + 1)) + (Int.tmod v13 3))) (IntKind.i64.wrap (x6 + 2))) else none) else none) else (if v28 = 1 then (if x1.length + 1 ≤ 2199023255552 then (if x3.length + 1 ≤ 2199023255552 then ((l8_0 n a0 a1 k7) (x1 ++ ([(⟨IntKind.i64.wrap ((IntKind.i64.wrap (x5 + 1)) + (Int.tmod v13 3)), rd ([[109, 97, 105, 110], [98, 45, 49]] : List (List UInt8)) (Int.tmod (IntKind.i64.wrap (Int.tdiv v13 3)) 2), Int.tmod v13 9, Int.tmod v13 7, IntKind.i64.wrap ((Int.tmod v13 4) - 2), IntKind.u64.wrap v13, true⟩ : S2)] : List S2)) (x3 ++ ([(⟨IntKind.i64.wrap (50 + (IntKind.i64.wrap ((IntKind.i64.wrap (x5 + 1)) + (Int.tmod v13 3)))), rd ([[109, 97, 105, 110], [98, 45, 49]] : List (List UInt8)) (Int.tmod (IntKind.i64.wrap (Int.tdiv v13 3)) 2), Int.tmod v13 9, a1, IntKind.i64.wrap ((Int.tmod v13 4) - 2), IntKind.u64.wrap (rd a0 (IntKind.i64.wrap (x6 + 1))), true⟩ : S2)] : List S2)) (IntKind.i64.wrap ((IntKind.i64.wrap (x5 + 1)) + (Int.tmod v13 3))) (IntKind.i64.wrap (x6 + 2))) else none) else none) else (if v28 = 2 then (if x1.length + 1 ≤ 2199023255552 then (if x3.length + 1 ≤ 2199023255552 then ((l8_0 n a0 a1 k7) (x1 ++ ([(⟨IntKind.i64.wrap ((IntKind.i64.wrap (x5 + 1)) + (Int.tmod v13 3)), rd ([[109, 97, 105, 110], [98, 45, 49]] : List (List UInt8)) (Int.tmod (IntKind.i64.wrap (Int.tdiv v13 3)) 2), Int.tmod v13 9, Int.tmod v13 7, IntKind.i64.wrap ((Int.tmod v13 4) - 2), IntKind.u64.wrap v13, true⟩ : S2)] : List S2)) (x3 ++ ([(⟨IntKind.i64.wrap (50 + (IntKind.i64.wrap ((IntKind.i64.wrap (x5 + 1)) + (Int.tmod v13 3)))), [99], Int.tmod v13 9, a1, IntKind.i64.wrap ((Int.tmod v13 4) - 2), IntKind.u64.wrap (rd a0 (IntKind.i64.wrap (x6 + 1))), false⟩ : S2)] : List S2)) (IntKind.i64.wrap ((IntKind.i64.wrap (x5 + 1)) + (Int.tmod v13 3))) (IntKind.i64.wrap (x6 + 2))) else none) else none) else (if v28 = 3 then (if x1.length + 1 ≤ 2199023255552 then (if x3.length + 1 ≤ 2199023255552 then ((l8_0 n a0 a1 k7) (x1 ++ ([(⟨IntKind.i64.wrap ((IntKind.i64.wrap (x5 + 1)) + (Int.tmod v13 3)), rd ([[109, 97, 105, 110], [98, 45, 49]] : List (List UInt8)) (Int.tmod (IntKind.i64.wrap (Int.tdiv v13 3)) 2), Int.tmod v13 9, Int.tmod v13 7, IntKind.i64.wrap ((Int.tmod v13 4) - 2), IntKind.u64.wrap v13, true⟩ : S2)] : List S2)) (x3 ++ ([(⟨IntKind.i64.wrap (50 + (IntKind.i64.wrap ((IntKind.i64.wrap (x5 + 1)) + (Int.tmod v13 3)))), rd ([[109, 97, 105, 110], [98, 45, 49]] : List (List UInt8)) (Int.tmod (IntKind.i64.wrap (Int.tdiv v13 3)) 2), IntKind.i64.wrap ((Int.tmod v13 9) + 1), a1, IntKind.i64.wrap ((Int.tmod v13 4) - 2), IntKind.u64.wrap (rd a0 (IntKind.i64.wrap (x6 + 1))), false⟩ : S2)] : List S2)) (IntKind.i64.wrap ((IntKind.i64.wrap (x5 + 1)) + (Int.tmod v13 3))) (IntKind.i64.wrap (x6 + 2))) else none) else none) else (if v28 = 4 then (if x1.length + 1 ≤ 2199023255552 then (if x3.length + 1 ≤ 2199023255552 then ((l8_0 n a0 a1 k7) (x1 ++ ([(⟨IntKind.i64.wrap ((IntKind.i64.wrap (x5 + 1)) + (Int.tmod v13 3)), rd ([[109, 97, 105, 110], [98, 45, 49]] : List (List UInt8)) (Int.tmod (IntKind.i64.wrap (Int.tdiv v13 3)) 2), Int.tmod v13 9, Int.tmod v13 7, IntKind.i64.wrap ((Int.tmod v13 4) - 2), IntKind.u64.wrap v13, true⟩ : S2)] : List S2)) (x3 ++ ([(⟨IntKind.i64.wrap (50 + (IntKind.i64.wrap ((IntKind.i64.wrap (x5 + 1)) + (Int.tmod v13 3)))), rd ([[109, 97, 105, 110], [98, 45, 49]] : List (List UInt8)) (Int.tmod (IntKind.i64.wrap (Int.tdiv v13 3)) 2), Int.tmod v13 9, a1, 9, IntKind.u64.wrap (rd a0 (IntKind.i64.wrap (x6 + 1))), false⟩ : S2)] : List S2)) (IntKind.i64.wrap ((IntKind.i64.wrap (x5 + 1)) + (Int.tmod v13 3))) (IntKind.i64.wrap (x6 + 2))) else none) else none) else (if v28 = 5 then (if x1.length + 1 ≤ 2199023255552 then (if x3.length + 1 ≤ 2199023255552 then ((l8_0 n a0 a1 k7) (x1 ++ ([(⟨IntKind.i64.wrap ((IntKind.i64.wrap (x5 + 1)) + (Int.tmod v13 3)), rd ([[109, 97, 105, 110], [98, 45, 49]] : List (List UInt8)) (Int.tmod (IntKind.i64.wrap (Int.tdiv v13 3)) 2), Int.tmod v13 9, Int.tmod v13 7, IntKind.i64.wrap ((Int.tmod v13 4) - 2), IntKind.u64.wrap v13, true⟩ : S2)] : List S2)) (x3 ++ ([(⟨IntKind.i64.wrap (50 + (IntKind.i64.wrap ((IntKind.i64.wrap (x5 + 1)) + (Int.tmod v13 3)))), rd ([[109, 97, 105, 110], [98, 45, 49]] : List (List UInt8)) (Int.tmod (IntKind.i64.wrap (Int.tdiv v13 3)) 2), Int.tmod v13 9, IntKind.i64.wrap (a1 + 1), IntKind.i64.wrap ((Int.tmod v13 4) - 2), IntKind.u64.wrap (rd a0 (IntKind.i64.wrap (x6 + 1))), false⟩ : S2)] : List S2)) (IntKind.i64.wrap ((IntKind.i64.wrap (x5 + 1)) + (Int.tmod v13 3))) (IntKind.i64.wrap (x6 + 2))) else none) else none) else (if v28 = 6 then (if x1.length + 1 ≤ 2199023255552 then (if x3.length + 1 ≤ 2199023255552 then ((l8_0 n a0 a1 k7) (x1 ++ ([(⟨IntKind.i64.wrap ((IntKind.i64.wrap (x5 + 1)) + (Int.tmod v13 3)), rd ([[109, 97, 105, 110], [98, 45, 49]] : List (List UInt8)) (Int.tmod (IntKind.i64.wrap (Int.tdiv v13 3)) 2), Int.tmod v13 9, Int.tmod v13 7, IntKind.i64.wrap ((Int.tmod v13 4) - 2), IntKind.u64.wrap v13, true⟩ : S2)] : List S2)) (x3 ++ ([(⟨3, rd ([[109, 97, 105, 110], [98, 45, 49]] : List (List UInt8)) (Int.tmod (IntKind.i64.wrap (Int.tdiv v13 3)) 2), Int.tmod v13 9, a1, IntKind.i64.wrap ((Int.tmod v13 4) - 2), IntKind.u64.wrap (rd a0 (IntKind.i64.wrap (x6 + 1))), false⟩ : S2)] : List S2)) (IntKind.i64.wrap ((IntKind.i64.wrap (x5 + 1)) + (Int.tmod v13 3))) (IntKind.i64.wrap (x6 + 2))) else none) else none) else (if x1.length + 1 ≤ 2199023255552 then (if x3.length + 1 ≤ 2199023255552 then ((l8_0 n a0 a1 k7) (x1 ++ ([(⟨IntKind.i64.wrap ((IntKind.i64.wrap (x5 + 1)) + (Int.tmod v13 3)), rd ([[109, 97, 105, 110], [98, 45, 49]] : List (List UInt8)) (Int.tmod (IntKind.i64.wrap (Int.tdiv v13 3)) 2), Int.tmod v13 9, Int.tmod v13 7, IntKind.i64.wrap ((Int.tmod v13 4) - 2), IntKind.u64.wrap v13, true⟩ : S2)] : List S2)) (x3 ++ ([(⟨IntKind.i64.wrap (50 + (IntKind.i64.wrap ((IntKind.i64.wrap (x5 + 1)) + (Int.tmod v13 3)))), rd ([[109, 97, 105, 110], [98, 45, 49]] : List (List UInt8)) (Int.tmod (IntKind.i64.wrap (Int.tdiv v13 3)) 2), Int.tmod v13 9, a1, IntKind.i64.wrap ((Int.tmod v13 4) - 2), IntKind.u64.wrap (rd a0 (IntKind.i64.wrap (x6 + 1))), false⟩ : S2)] : List S2)) (IntKind.i64.wrap ((IntKind.i64.wrap (x5 + 1)) + (Int.tmod v13 3))) (IntKind.i64.wrap (x6 + 2))) else none) else none)))))))) else none) else none) else none) else none) else (some (x1, x3))) else (some (x1, x3))
theorem rs8 : Tryz.f8.results.toList = [.tmp 4, .tmp 5] := rfl
def g8 (n : Nat) (a0 : List Int) (a1 : Int) : Option (List S2 × List S2) := l8_0 n a0 a1 n ([] : List S2) ([] : List S2) 0 0
theorem c8 {B : Nat} {w0 : World} {n : Nat} {a0 : List Int} {a1 : Int} {ta0 : Tail} {H : AHeap} {L : List Item} {K : AV → AHeap → Prop} {r : (List S2 × List S2)} (hS : Hv H (L)) (hg : g8 n a0 a1 = some r) (hK : ∀ (q0 : Tail) (q1 : Tail) (H' : AHeap), Hv H' (.tl q0 :: .tl q1 :: L) → K (.tup [.dl 7 (List.map encS2 r.1) q0, .dl 7 (List.map encS2 r.2) q1]) H') : ACall Tryz.prog B w0 8 [.dl 1 (List.map (AV.int .i64) a0) ta0, .int .i64 a1] H K := by
  refine ACall.ret ?_
  unfold g8 at hg
  refine ACall.enter Tryz.func8 (by kernel_rfl) rfl (eawp_sound noY_sound _ _ _ _ ?_)
  have hF := True.intro
  have F := hS.facts
  have h0 := True.intro
  repeat' ((first
    | (clear h0)
    | (with_reducible exact noneE hg)
    | ((with_reducible refine Br.iteB hg (fun h hg => ?_) (fun h hg => ?_)) <;> replace hF := And.intro h hF)
    | ((with_reducible refine Br.iteP hg (fun h hg => ?_) (fun h hg => ?_)) <;> replace hF := And.intro h hF)
    | ((with_reducible refine branchB hg (fun h hg => ?_) (fun h hg => ?_)) <;> replace hF := And.intro h hF)
    | ((with_reducible refine atEx ?_); exact ⟨⟨_, _, _, _, _, _⟩, _, by repeat first | exact sZ | with_reducible apply sD | with_reducible apply sK | apply sP | apply sF | apply sN | apply sT, hg, hS, by repeat first | exact nD | (apply nT; (· (repeat first | exact pH | apply pT))) | (apply nW; (· (repeat first | exact pH | apply pT)); (· (repeat first | exact kZ | apply kR | apply kF | apply kN | apply kE | apply kI | apply kT | apply kU))) | apply nF | apply nX⟩)
    | ((with_reducible refine atF 7 ?_); (with_reducible replace hg := bind_some hg); obtain ⟨_, hc, hg⟩ := hg; refine ACall.wkN (fun H hS => c7 hS hc ?_) (by repeat first | exact aZ | apply aR | apply aF | apply aN | apply aT | refine aG (by (repeat first | exact kZ | apply kR | apply kF | apply kN | apply kE | apply kI | apply kT | apply kU)) ?_) hS (by repeat first | exact nD | (apply nT; (· (repeat first | exact pH | apply pT))) | (apply nW; (· (repeat first | exact pH | apply pT)); (· (repeat first | exact kZ | apply kR | apply kF | apply kN | apply kE | apply kI | apply kT | apply kU))) | apply nF | apply nX); intro  H hS)
    | ((with_reducible refine atAlloc2 80 11 ?_); refine alloc_go ty80 rfl rfl hS ?_; intro o11 H hS; simp only [AV.cells] at hS)
    | ((with_reducible refine atSto 80 ?_); refine sto_go ty80 (by repeat first | exact pH | apply pT) hS (by rfl) (by rfl) (by exact Nat.le_of_ble_eq_true rfl) ?_; intro H hS; simp only [putA_nil, putA_0, putA_s, List.cons_append, List.nil_append, AV.cells, List.length_cons, List.length_nil, List.drop_succ_cons, List.drop_zero, Nat.reduceAdd] at hS)
    | ((with_reducible refine atAlloc2 80 12 ?_); refine alloc_go ty80 rfl rfl hS ?_; intro o12 H hS; simp only [AV.cells] at hS)
    | ((with_reducible refine atSto 3 ?_); refine sto_go ty3 (by repeat first | exact pH | apply pT) hS (by rfl) (by rfl) (by exact Nat.le_of_ble_eq_true rfl) ?_; intro H hS; simp only [putA_nil, putA_0, putA_s, List.cons_append, List.nil_append, AV.cells, List.length_cons, List.length_nil, List.drop_succ_cons, List.drop_zero, Nat.reduceAdd] at hS)
    | ((with_reducible refine atSto 53 ?_); refine sto_go ty53 (by repeat first | exact pH | apply pT) hS (by rfl) (by rfl) (by exact Nat.le_of_ble_eq_true rfl) ?_; intro H hS; simp only [putA_nil, putA_0, putA_s, List.cons_append, List.nil_append, AV.cells, List.length_cons, List.length_nil, List.drop_succ_cons, List.drop_zero, Nat.reduceAdd] at hS)
    | ((with_reducible refine atSto 4 ?_); refine sto_go ty4 (by repeat first | exact pH | apply pT) hS (by rfl) (by rfl) (by exact Nat.le_of_ble_eq_true rfl) ?_; intro H hS; simp only [putA_nil, putA_0, putA_s, List.cons_append, List.nil_append, AV.cells, List.length_cons, List.length_nil, List.drop_succ_cons, List.drop_zero, Nat.reduceAdd] at hS)
    | ((with_reducible refine atAppE2 100 ?_); refine app_map apt24 (src1_encS2 ty24 rfl) (by repeat first | exact pH | apply pT) hS (by first | simpa using hF.1 | simp only [List.length_cons, List.length_nil, Nat.zero_add, hF] | simpa using hF.2.1 | simpa using hF.2.2.1 | simpa using hF.2.2.2.1 | simpa using hF.2.2.2.2.1 | (simp at hF ⊢; omega)) ?_; intro t100 H hS)
    | ((with_reducible refine atAppE2 104 ?_); refine app_map apt24 (src1_encS2 ty24 rfl) (by repeat first | exact pH | apply pT) hS (by first | simpa using hF.1 | simp only [List.length_cons, List.length_nil, Nat.zero_add, hF] | simpa using hF.2.1 | simpa using hF.2.2.1 | simpa using hF.2.2.2.1 | simpa using hF.2.2.2.2.1 | (simp at hF ⊢; omega)) ?_; intro t104 H hS)
    | ((with_reducible refine atSto 9 ?_); refine sto_go ty9 (by repeat first | exact pH | apply pT) hS (by rfl) (by rfl) (by exact Nat.le_of_ble_eq_true rfl) ?_; intro H hS; simp only [putA_nil, putA_0, putA_s, List.cons_append, List.nil_append, AV.cells, List.length_cons, List.length_nil, List.drop_succ_cons, List.drop_zero, Nat.reduceAdd] at hS)
    | ((with_reducible refine atLoop ?_); (with_reducible refine pickL hg (rfl : _ = l8_0 n _ _ n _ _ _ _) ?_); refine AWP.loopE (σ := List S2 × List S2 × Int × Int × Tail × Tail) ⟨_, _, _, _, _, _⟩ ((fun (f : Nat → List S2 → List S2 → Int → Int → Option (List S2 × List S2)) k (s : List S2 × List S2 × Int × Int × Tail × Tail) => f k s.1 s.2.1 s.2.2.1 s.2.2.2.1) (l8_0 n _ _)) (fun s => [.k, .k, .d, .d, .d, .d, .p (.dl 7 (List.map encS2 s.1) s.2.2.2.2.1), .p (.dl 7 (List.map encS2 s.2.1) s.2.2.2.2.2), .p (.int .i64 s.2.2.1), .p (.int .i64 s.2.2.2.1), .d, .d, .d, .d, .d, .d, .d, .d, .d, .d, .d, .d, .d, .d, .d, .d, .d, .d, .d, .d, .d, .d, .d, .d, .d, .d, .d, .d, .d, .d, .d, .d, .d, .d, .d, .d, .d, .d, .d, .d, .d, .d, .d, .d, .d, .d, .d, .d, .d, .d, .d, .d, .d, .d, .d, .d, .d, .d, .d, .d, .d, .d, .d, .d, .d, .d, .d, .d, .d, .d, .d, .d, .d, .d, .d, .d, .d, .d, .d, .d, .d, .d, .d, .d, .d, .d, .d, .d, .d, .d, .d, .d, .d, .d, .d, .d, .d]) (fun s => .tl s.2.2.2.2.1 :: .tl s.2.2.2.2.2 :: L) hg (by repeat first | exact sZ | with_reducible apply sD | with_reducible apply sK | apply sP | apply sF | apply sN | apply sT) hS (by repeat first | exact nD | (apply nT; (· (repeat first | exact pH | apply pT))) | (apply nW; (· (repeat first | exact pH | apply pT)); (· (repeat first | exact kZ | apply kR | apply kF | apply kN | apply kE | apply kI | apply kT | apply kU))) | apply nF | apply nX) (fun _ => rfl) ?_; rintro k ⟨x1, x3, x5, x6, tl2, tl4⟩ H hg hS; (try dsimp only at hg); (try dsimp only at hS); rw [l8_0] at hg; refine eawp_sound noY_sound _ _ _ _ ?_; simp only [applyS_d, applyS_k, applyS_p, applyS_nil])
    | ((with_reducible refine atRet ?_); (with_reducible replace hg := Option.some.inj hg); subst hg; exact (RetK.go (hK _ _) (by first | exact rR | exact rT | exact rF | exact rN | exact rG (by repeat first | exact kZ | apply kR | apply kF | apply kN | apply kE | apply kI | apply kT | apply kU) | exact rU (by repeat first | exact aZ | apply aR | apply aF | apply aN | apply aT | refine aG (by (repeat first | exact kZ | apply kR | apply kF | apply kN | apply kE | apply kI | apply kT | apply kU)) ?_)) hS (by repeat first | exact nD | (apply nT; (· (repeat first | exact pH | apply pT))) | (apply nW; (· (repeat first | exact pH | apply pT)); (· (repeat first | exact kZ | apply kR | apply kF | apply kN | apply kE | apply kI | apply kT | apply kU))) | apply nF | apply nX)))
    | (simp only [hF, reduceIte] at hg)) <;> ((repeat ((with_reducible first | replace hg := guardN hg | replace hg := guardS3 hg | replace hg := guardS2 hg | replace hg := guardS1 hg | replace hg := gd4 hg | replace hg := gd3 hg | replace hg := gd2 hg | replace hg := gd1 hg); obtain ⟨h, hg⟩ := hg; replace hF := And.intro h hF)); replace F := hS.facts; (try simp only [Facts_obj, Facts_tl, Facts_own] at F); try simp only [EVA, reduceIte, reduceCtorEq, Nat.reduceLT, Nat.reduceLeDiff, Int.reduceEq, Int.reduceLT, Int.reduceLE, Nat.reduceMul, Int.reduceToNat, Nat.reduceAdd, Int.reduceAdd, Int.reduceSub, Int.reduceMul, Int.reduceNeg, Tryz.ntmps8, rs8, (show IntKind.i64.wrap 1 = 1 from rfl), (show IntKind.i64.wrap 2 = 2 from rfl), lit2_AVstr, hF, F]))
/-- skymosaic/skymosaicref01.Pick -/
theorem rs31 : Tryz.f31.results.toList = [.tmp 6] := rfl
def g31 (n : Nat) (a0 : List Int) (a1 : Int) (a2 : Int) : Option (Int) := if a1 < 0 then (some 0) else (if (a0.length : Int) ≤ a1 then (some 0) else (if (0 : Int) ≤ a1 ∧ a1 < (a0.length : Int) then ((g7 n (rd a0 a1) a2).bind fun v5 => some v5) else none))
theorem c31 {B : Nat} {w0 : World} {n : Nat} {a0 : List Int} {a1 : Int} {a2 : Int} {ta0 : Tail} {H : AHeap} {L : List Item} {K : AV → AHeap → Prop} {r : (Int)} (hS : Hv H (L)) (hg : g31 n a0 a1 a2 = some r) (hK : ∀ (H' : AHeap), Hv H' (L) → K (.int .i64 r) H') : ACall Tryz.prog B w0 31 [.dl 1 (List.map (AV.int .i64) a0) ta0, .int .i64 a1, .int .i64 a2] H K := by
  refine ACall.ret ?_
  unfold g31 at hg
  refine ACall.enter Tryz.func31 (by kernel_rfl) rfl (eawp_sound noY_sound _ _ _ _ ?_)
  have hF := True.intro
  have F := hS.facts
  have h0 := True.intro
  repeat' ((first
    | (clear h0)
    | (with_reducible exact noneE hg)
    | ((with_reducible refine Br.iteB hg (fun h hg => ?_) (fun h hg => ?_)) <;> replace hF := And.intro h hF)
    | ((with_reducible refine Br.iteP hg (fun h hg => ?_) (fun h hg => ?_)) <;> replace hF := And.intro h hF)
    | ((with_reducible refine branchB hg (fun h hg => ?_) (fun h hg => ?_)) <;> replace hF := And.intro h hF)
    | ((with_reducible refine atF 7 ?_); (with_reducible replace hg := bind_some hg); obtain ⟨_, hc, hg⟩ := hg; refine ACall.wkN (fun H hS => c7 hS hc ?_) (by repeat first | exact aZ | apply aR | apply aF | apply aN | apply aT | refine aG (by (repeat first | exact kZ | apply kR | apply kF | apply kN | apply kE | apply kI | apply kT | apply kU)) ?_) hS (by repeat first | exact nD | (apply nT; (· (repeat first | exact pH | apply pT))) | (apply nW; (· (repeat first | exact pH | apply pT)); (· (repeat first | exact kZ | apply kR | apply kF | apply kN | apply kE | apply kI | apply kT | apply kU))) | apply nF | apply nX); intro  H hS)
    | ((with_reducible refine atRet ?_); (with_reducible replace hg := Option.some.inj hg); subst hg; exact (RetK.go (hK ) (by first | exact rR | exact rT | exact rF | exact rN | exact rG (by repeat first | exact kZ | apply kR | apply kF | apply kN | apply kE | apply kI | apply kT | apply kU) | exact rU (by repeat first | exact aZ | apply aR | apply aF | apply aN | apply aT | refine aG (by (repeat first | exact kZ | apply kR | apply kF | apply kN | apply kE | apply kI | apply kT | apply kU)) ?_)) hS (by repeat first | exact nD | (apply nT; (· (repeat first | exact pH | apply pT))) | (apply nW; (· (repeat first | exact pH | apply pT)); (· (repeat first | exact kZ | apply kR | apply kF | apply kN | apply kE | apply kI | apply kT | apply kU))) | apply nF | apply nX)))
    | (simp only [hF, reduceIte] at hg)) <;> ((repeat ((with_reducible first | replace hg := guardN hg | replace hg := guardS3 hg | replace hg := guardS2 hg | replace hg := guardS1 hg | replace hg := gd4 hg | replace hg := gd3 hg | replace hg := gd2 hg | replace hg := gd1 hg); obtain ⟨h, hg⟩ := hg; replace hF := And.intro h hF)); replace F := hS.facts; (try simp only [Facts_obj, Facts_tl, Facts_own] at F); try simp only [EVA, reduceIte, reduceCtorEq, Nat.reduceLT, Nat.reduceLeDiff, Int.reduceEq, Int.reduceLT, Int.reduceLE, Nat.reduceMul, Int.reduceToNat, Nat.reduceAdd, Int.reduceAdd, Int.reduceSub, Int.reduceMul, Int.reduceNeg, Tryz.ntmps31, rs31, hF, F]))
/-- skymosaic/skymosaicref38.Inputs -/
def l9_0 (n : Nat) (a0 : List Int) (a1 : Int) : Nat → List Int → Int → Option (List Int)
  | 0, _, _ => none
  | k4 + 1, x1, x3 => (g7 n a1 5).bind fun v6 => if x3 < v6 then ((g31 n a0 (IntKind.i64.wrap (x3 + 2)) 30).bind fun v8 => if x1.length + 1 ≤ 17592186044416 then ((l9_0 n a0 a1 k4) (x1 ++ ([IntKind.u64.wrap v8] : List Int)) (IntKind.i64.wrap (x3 + 1))) else none) else (some x1)
theorem rs9 : Tryz.f9.results.toList = [.tmp 4] := rfl
def g9 (n : Nat) (a0 : List Int) (a1 : Int) : Option (List Int) := l9_0 n a0 a1 n ([] : List Int) 0
theorem c9 {B : Nat} {w0 : World} {n : Nat} {a0 : List Int} {a1 : Int} {ta0 : Tail} {H : AHeap} {L : List Item} {K : AV → AHeap → Prop} {r : (List Int)} (hS : Hv H (L)) (hg : g9 n a0 a1 = some r) (hK : ∀ (q0 : Tail) (H' : AHeap), Hv H' (.tl q0 :: L) → K (.dl 1 (List.map (AV.int .u64) r) q0) H') : ACall Tryz.prog B w0 9 [.dl 1 (List.map (AV.int .i64) a0) ta0, .int .i64 a1] H K := by
  refine ACall.ret ?_
  unfold g9 at hg
  refine ACall.enter Tryz.func9 (by kernel_rfl) rfl (eawp_sound noY_sound _ _ _ _ ?_)
  have hF := True.intro
  have F := hS.facts
  have h0 := True.intro
  repeat' ((first
    | (clear h0)
    | (with_reducible exact noneE hg)
    | ((with_reducible refine Br.iteB hg (fun h hg => ?_) (fun h hg => ?_)) <;> replace hF := And.intro h hF)
    | ((with_reducible refine Br.iteP hg (fun h hg => ?_) (fun h hg => ?_)) <;> replace hF := And.intro h hF)
    | ((with_reducible refine branchB hg (fun h hg => ?_) (fun h hg => ?_)) <;> replace hF := And.intro h hF)
    | ((with_reducible refine atEx ?_); exact ⟨⟨_, _, _⟩, _, by repeat first | exact sZ | with_reducible apply sD | with_reducible apply sK | apply sP | apply sF | apply sN | apply sT, hg, hS, by repeat first | exact nD | (apply nT; (· (repeat first | exact pH | apply pT))) | (apply nW; (· (repeat first | exact pH | apply pT)); (· (repeat first | exact kZ | apply kR | apply kF | apply kN | apply kE | apply kI | apply kT | apply kU))) | apply nF | apply nX⟩)
    | ((with_reducible refine atF 7 ?_); (with_reducible replace hg := bind_some hg); obtain ⟨_, hc, hg⟩ := hg; refine ACall.wkN (fun H hS => c7 hS hc ?_) (by repeat first | exact aZ | apply aR | apply aF | apply aN | apply aT | refine aG (by (repeat first | exact kZ | apply kR | apply kF | apply kN | apply kE | apply kI | apply kT | apply kU)) ?_) hS (by repeat first | exact nD | (apply nT; (· (repeat first | exact pH | apply pT))) | (apply nW; (· (repeat first | exact pH | apply pT)); (· (repeat first | exact kZ | apply kR | apply kF | apply kN | apply kE | apply kI | apply kT | apply kU))) | apply nF | apply nX); intro  H hS)
    | ((with_reducible refine atF 31 ?_); (with_reducible replace hg := bind_some hg); obtain ⟨_, hc, hg⟩ := hg; refine ACall.wkN (fun H hS => c31 hS hc ?_) (by repeat first | exact aZ | apply aR | apply aF | apply aN | apply aT | refine aG (by (repeat first | exact kZ | apply kR | apply kF | apply kN | apply kE | apply kI | apply kT | apply kU)) ?_) hS (by repeat first | exact nD | (apply nT; (· (repeat first | exact pH | apply pT))) | (apply nW; (· (repeat first | exact pH | apply pT)); (· (repeat first | exact kZ | apply kR | apply kF | apply kN | apply kE | apply kI | apply kT | apply kU))) | apply nF | apply nX); intro  H hS)
    | ((with_reducible refine atAppE2 20 ?_); refine app_map apt27 (src1_AVintu64 ty27 rfl) (by repeat first | exact pH | apply pT) hS (by first | simpa using hF.1 | simp only [List.length_cons, List.length_nil, Nat.zero_add, hF] | simpa using hF.2.1 | simpa using hF.2.2.1 | simpa using hF.2.2.2.1 | simpa using hF.2.2.2.2.1 | (simp at hF ⊢; omega)) ?_; intro t20 H hS)
    | ((with_reducible refine atLoop ?_); (with_reducible refine pickL hg (rfl : _ = l9_0 n _ _ n _ _) ?_); refine AWP.loopE (σ := List Int × Int × Tail) ⟨_, _, _⟩ ((fun (f : Nat → List Int → Int → Option (List Int)) k (s : List Int × Int × Tail) => f k s.1 s.2.1) (l9_0 n _ _)) (fun s => [.k, .k, .d, .d, .d, .p (.dl 1 (List.map (AV.int .u64) s.1) s.2.2), .p (.int .i64 s.2.1), .d, .d, .d, .d, .d, .d, .d, .d, .d, .d, .d, .d, .d, .d, .d]) (fun s => .tl s.2.2 :: L) hg (by repeat first | exact sZ | with_reducible apply sD | with_reducible apply sK | apply sP | apply sF | apply sN | apply sT) hS (by repeat first | exact nD | (apply nT; (· (repeat first | exact pH | apply pT))) | (apply nW; (· (repeat first | exact pH | apply pT)); (· (repeat first | exact kZ | apply kR | apply kF | apply kN | apply kE | apply kI | apply kT | apply kU))) | apply nF | apply nX) (fun _ => rfl) ?_; rintro k ⟨x1, x3, tl2⟩ H hg hS; (try dsimp only at hg); (try dsimp only at hS); rw [l9_0] at hg; refine eawp_sound noY_sound _ _ _ _ ?_; simp only [applyS_d, applyS_k, applyS_p, applyS_nil])
    | ((with_reducible refine atRet ?_); (with_reducible replace hg := Option.some.inj hg); subst hg; exact (RetK.go (hK _) (by first | exact rR | exact rT | exact rF | exact rN | exact rG (by repeat first | exact kZ | apply kR | apply kF | apply kN | apply kE | apply kI | apply kT | apply kU) | exact rU (by repeat first | exact aZ | apply aR | apply aF | apply aN | apply aT | refine aG (by (repeat first | exact kZ | apply kR | apply kF | apply kN | apply kE | apply kI | apply kT | apply kU)) ?_)) hS (by repeat first | exact nD | (apply nT; (· (repeat first | exact pH | apply pT))) | (apply nW; (· (repeat first | exact pH | apply pT)); (· (repeat first | exact kZ | apply kR | apply kF | apply kN | apply kE | apply kI | apply kT | apply kU))) | apply nF | apply nX)))
    | (simp only [hF, reduceIte] at hg)) <;> ((repeat ((with_reducible first | replace hg := guardN hg | replace hg := guardS3 hg | replace hg := guardS2 hg | replace hg := guardS1 hg | replace hg := gd4 hg | replace hg := gd3 hg | replace hg := gd2 hg | replace hg := gd1 hg); obtain ⟨h, hg⟩ := hg; replace hF := And.intro h hF)); replace F := hS.facts; (try simp only [Facts_obj, Facts_tl, Facts_own] at F); try simp only [EVA, reduceIte, reduceCtorEq, Nat.reduceLT, Nat.reduceLeDiff, Int.reduceEq, Int.reduceLT, Int.reduceLE, Nat.reduceMul, Int.reduceToNat, Nat.reduceAdd, Int.reduceAdd, Int.reduceSub, Int.reduceMul, Int.reduceNeg, Tryz.ntmps9, rs9, (show IntKind.i64.wrap 2 = 2 from rfl), (show IntKind.i64.wrap 1 = 1 from rfl), hF, F]))
/-- skymosaic/skymosaicref38.Proofs -/
def l10_2 (n : Nat) (l10_1_REC : List S1 → Int → Option (List (List S1))) (x7 : List S1) (x9 : Int) (v14 : (Int)) : Nat → Int → List Int → Option (List (List S1))
  | 0, _, _ => none
  | k20 + 1, x17, x18 => if x17 < (Int.tmod v14 4) then (if x18.length + 1 ≤ 17592186044416 then ((l10_2 n l10_1_REC x7 x9 v14 k20) (IntKind.i64.wrap (x17 + 1)) (x18 ++ ([IntKind.u64.wrap (IntKind.i64.wrap ((IntKind.i64.wrap (10 + (Int.tmod (IntKind.i64.wrap (Int.tdiv v14 4)) 7))) + x17))] : List Int))) else none) else (if x7.length + 1 ≤ 1599289640401 then (l10_1_REC (x7 ++ ([(⟨0, Int.tmod v14 3, x9, IntKind.u64.wrap v14, x18, ([] : List Int), IntKind.u64.wrap (IntKind.i64.wrap (v14 * x9))⟩ : S1)] : List S1)) (IntKind.i64.wrap (x9 + 1))) else none)
def l10_1 (n : Nat) (l10_0_REC : List (List S1) → Int → Option (List (List S1))) (a0 : List Int) (x1 : List (List S1)) (x3 : Int) : Nat → List S1 → Int → Option (List (List S1))
  | 0, _, _ => none
  | k10 + 1, x7, x9 => (g31 n a0 x3 4).bind fun v12 => if x9 < v12 then ((g31 n a0 (IntKind.i64.wrap ((IntKind.i64.wrap (x3 + x9)) + 1)) 1000).bind fun v14 => l10_2 n (l10_1 n l10_0_REC a0 x1 x3 k10) x7 x9 v14 n 0 ([] : List Int)) else (if x1.length + 1 ≤ 5864062014805 then (l10_0_REC (x1 ++ ([x7] : List (List S1))) (IntKind.i64.wrap (x3 + 1))) else none)
def l10_0 (n : Nat) (a0 : List Int) (a1 : Int) : Nat → List (List S1) → Int → Option (List (List S1))
  | 0, _, _ => none
  | k4 + 1, x1, x3 => if x3 < a1 then (l10_1 n (l10_0 n a0 a1 k4) a0 x1 x3 n ([] : List S1) 0) else (some x1)
theorem rs10 : Tryz.f10.results.toList = [.tmp 4] := rfl
def g10 (n : Nat) (a0 : List Int) (a1 : Int) : Option (List (List S1)) := l10_0 n a0 a1 n ([] : List (List S1)) 0
theorem c10 {B : Nat} {w0 : World} {n : Nat} {a0 : List Int} {a1 : Int} {ta0 : Tail} {H : AHeap} {L : List Item} {K : AV → AHeap → Prop} {r : (List (List S1))} (hS : Hv H (L)) (hg : g10 n a0 a1 = some r) (hK : ∀ (q0 : Tail) (H' : AHeap), Hv H' (.tl q0 :: L) → K (.dl 1 (List.map encL3 r) q0) H') : ACall Tryz.prog B w0 10 [.dl 1 (List.map (AV.int .i64) a0) ta0, .int .i64 a1] H K := by
  refine ACall.ret ?_
  unfold g10 at hg
  refine ACall.enter Tryz.func10 (by kernel_rfl) rfl (eawp_sound noY_sound _ _ _ _ ?_)
  have hF := True.intro
  have F := hS.facts
  have h0 := True.intro
  repeat' ((first
    | (clear h0)
    | (with_reducible exact noneE hg)
    | ((with_reducible refine Br.iteB hg (fun h hg => ?_) (fun h hg => ?_)) <;> replace hF := And.intro h hF)
    | ((with_reducible refine Br.iteP hg (fun h hg => ?_) (fun h hg => ?_)) <;> replace hF := And.intro h hF)
    | ((with_reducible refine branchB hg (fun h hg => ?_) (fun h hg => ?_)) <;> replace hF := And.intro h hF)
    | ((with_reducible refine atEx ?_); exact ⟨⟨_, _, _⟩, _, by repeat first | exact sZ | with_reducible apply sD | with_reducible apply sK | apply sP | apply sF | apply sN | apply sT, hg, hS, by repeat first | exact nD | (apply nT; (· (repeat first | exact pH | apply pT))) | (apply nW; (· (repeat first | exact pH | apply pT)); (· (repeat first | exact kZ | apply kR | apply kF | apply kN | apply kE | apply kI | apply kT | apply kU))) | apply nF | apply nX⟩)
    | ((with_reducible refine atEx ?_); exact ⟨⟨_, _, _⟩, _, by repeat first | exact sZ | with_reducible apply sD | with_reducible apply sK | apply sP | apply sF | apply sN | apply sT, hg, hS, by repeat first | exact nD | (apply nT; (· (repeat first | exact pH | apply pT))) | (apply nW; (· (repeat first | exact pH | apply pT)); (· (repeat first | exact kZ | apply kR | apply kF | apply kN | apply kE | apply kI | apply kT | apply kU))) | apply nF | apply nX⟩)
    | ((with_reducible refine atF 31 ?_); (with_reducible replace hg := bind_some hg); obtain ⟨_, hc, hg⟩ := hg; refine ACall.wkN (fun H hS => c31 hS hc ?_) (by repeat first | exact aZ | apply aR | apply aF | apply aN | apply aT | refine aG (by (repeat first | exact kZ | apply kR | apply kF | apply kN | apply kE | apply kI | apply kT | apply kU)) ?_) hS (by repeat first | exact nD | (apply nT; (· (repeat first | exact pH | apply pT))) | (apply nW; (· (repeat first | exact pH | apply pT)); (· (repeat first | exact kZ | apply kR | apply kF | apply kN | apply kE | apply kI | apply kT | apply kU))) | apply nF | apply nX); intro  H hS)
    | ((with_reducible refine atAlloc2 57 10 ?_); refine alloc_go ty57 rfl rfl hS ?_; intro o10 H hS; simp only [AV.cells] at hS)
    | ((with_reducible refine atSto 57 ?_); refine sto_go ty57 (by repeat first | exact pH | apply pT) hS (by rfl) (by rfl) (by exact Nat.le_of_ble_eq_true rfl) ?_; intro H hS; simp only [putA_nil, putA_0, putA_s, List.cons_append, List.nil_append, AV.cells, List.length_cons, List.length_nil, List.drop_succ_cons, List.drop_zero, Nat.reduceAdd] at hS)
    | ((with_reducible refine atEx ?_); exact ⟨⟨_, _, _⟩, _, by repeat first | exact sZ | with_reducible apply sD | with_reducible apply sK | apply sP | apply sF | apply sN | apply sT, hg, hS, by repeat first | exact nD | (apply nT; (· (repeat first | exact pH | apply pT))) | (apply nW; (· (repeat first | exact pH | apply pT)); (· (repeat first | exact kZ | apply kR | apply kF | apply kN | apply kE | apply kI | apply kT | apply kU))) | apply nF | apply nX⟩)
    | ((with_reducible refine atAppE2 57 ?_); refine app_map apt27 (src1_AVintu64 ty27 rfl) (by repeat first | exact pH | apply pT) hS (by first | simpa using hF.1 | simp only [List.length_cons, List.length_nil, Nat.zero_add, hF] | simpa using hF.2.1 | simpa using hF.2.2.1 | simpa using hF.2.2.2.1 | simpa using hF.2.2.2.2.1 | (simp at hF ⊢; omega)) ?_; intro t57 H hS)
    | ((with_reducible refine atSto 27 ?_); refine sto_go ty27 (by repeat first | exact pH | apply pT) hS (by rfl) (by rfl) (by exact Nat.le_of_ble_eq_true rfl) ?_; intro H hS; simp only [putA_nil, putA_0, putA_s, List.cons_append, List.nil_append, AV.cells, List.length_cons, List.length_nil, List.drop_succ_cons, List.drop_zero, Nat.reduceAdd] at hS)
    | ((with_reducible refine atAppE2 62 ?_); refine app_map apt52 (srcW_encS1 ty52 rfl rfl (by repeat first | exact kZ | apply kR | apply kF | apply kN | apply kE | apply kI | apply kT | apply kU)) (by repeat first | exact pH | apply pT) hS (by first | simpa using hF.1 | simp only [List.length_cons, List.length_nil, Nat.zero_add, hF] | simpa using hF.2.1 | simpa using hF.2.2.1 | simpa using hF.2.2.2.1 | simpa using hF.2.2.2.2.1 | (simp at hF ⊢; omega)) ?_; intro t62 H hS)
    | ((with_reducible refine atLoop ?_); (with_reducible refine pickL hg (rfl : _ = l10_2 n _ _ _ _ n _ _) ?_); refine AWP.loopE (σ := Int × List Int × Tail) ⟨_, _, _⟩ ((fun (f : Nat → Int → List Int → Option (List (List S1))) k (s : Int × List Int × Tail) => f k s.1 s.2.1) (l10_2 n _ _ _ _)) (fun s => [.k, .k, .d, .d, .d, .k, .k, .k, .k, .k, .k, .p (.int .i64 s.1), .d, .d, .d, .d, .d, .d, .d, .d, .d, .d, .d, .d, .d, .d, .d, .d, .d, .d, .d, .d, .d, .d, .d, .d, .d, .d, .d, .d, .d, .d, .d, .d, .d, .d, .d, .d, .d, .d, .d, .d, .d, .d, .d, .d, .d, .d, .d, .d, .d, .d, .d, .d, .d, .d, .d, .d]) ((fun c0 c1 c2 c3 c4 c5 (s : Int × List Int × Tail) => .obj o10 (.cells [c0, c1, c2, c3, .dl 1 (List.map (AV.int .u64) s.2.1) s.2.2, c4, c5]) :: .tl tl2 :: .tl tl8 :: .tl s.2.2 :: L) _ _ _ _ _ _) hg (by repeat first | exact sZ | with_reducible apply sD | with_reducible apply sK | apply sP | apply sF | apply sN | apply sT) hS (by repeat first | exact nD | (apply nT; (· (repeat first | exact pH | apply pT))) | (apply nW; (· (repeat first | exact pH | apply pT)); (· (repeat first | exact kZ | apply kR | apply kF | apply kN | apply kE | apply kI | apply kT | apply kU))) | apply nF | apply nX) (fun _ => rfl) ?_; rintro k ⟨x17, x18, tl19⟩ H hg hS; (try dsimp only at hg); (try dsimp only at hS); rw [l10_2] at hg; refine eawp_sound noY_sound _ _ _ _ ?_; simp only [applyS_d, applyS_k, applyS_p, applyS_nil])
    | ((with_reducible refine atAppE2 66 ?_); refine app_map apt29 (srcW_encL3 ty29 rfl rfl (by repeat first | exact kZ | apply kR | apply kF | apply kN | apply kE | apply kI | apply kT | apply kU)) (by repeat first | exact pH | apply pT) hS (by first | simpa using hF.1 | simp only [List.length_cons, List.length_nil, Nat.zero_add, hF] | simpa using hF.2.1 | simpa using hF.2.2.1 | simpa using hF.2.2.2.1 | simpa using hF.2.2.2.2.1 | (simp at hF ⊢; omega)) ?_; intro t66 H hS)
    | ((with_reducible refine atLoop ?_); (with_reducible refine pickL hg (rfl : _ = l10_1 n _ _ _ _ n _ _) ?_); refine AWP.loopE (σ := List S1 × Int × Tail) ⟨_, _, _⟩ ((fun (f : Nat → List S1 → Int → Option (List (List S1))) k (s : List S1 × Int × Tail) => f k s.1 s.2.1) (l10_1 n _ _ _ _)) (fun s => [.k, .k, .d, .d, .d, .k, .k, .p (.dl 7 (List.map encS1 s.1) s.2.2), .p (.int .i64 s.2.1), .d, .d, .d, .d, .d, .d, .d, .d, .d, .d, .d, .d, .d, .d, .d, .d, .d, .d, .d, .d, .d, .d, .d, .d, .d, .d, .d, .d, .d, .d, .d, .d, .d, .d, .d, .d, .d, .d, .d, .d, .d, .d, .d, .d, .d, .d, .d, .d, .d, .d, .d, .d, .d, .d, .d, .d, .d, .d, .d]) (fun s => .tl tl2 :: .tl s.2.2 :: L) hg (by repeat first | exact sZ | with_reducible apply sD | with_reducible apply sK | apply sP | apply sF | apply sN | apply sT) hS (by repeat first | exact nD | (apply nT; (· (repeat first | exact pH | apply pT))) | (apply nW; (· (repeat first | exact pH | apply pT)); (· (repeat first | exact kZ | apply kR | apply kF | apply kN | apply kE | apply kI | apply kT | apply kU))) | apply nF | apply nX) (fun _ => rfl) ?_; rintro k ⟨x7, x9, tl8⟩ H hg hS; (try dsimp only at hg); (try dsimp only at hS); rw [l10_1] at hg; refine eawp_sound noY_sound _ _ _ _ ?_; simp only [applyS_d, applyS_k, applyS_p, applyS_nil])
    | ((with_reducible refine atLoop ?_); (with_reducible refine pickL hg (rfl : _ = l10_0 n _ _ n _ _) ?_); refine AWP.loopE (σ := List (List S1) × Int × Tail) ⟨_, _, _⟩ ((fun (f : Nat → List (List S1) → Int → Option (List (List S1))) k (s : List (List S1) × Int × Tail) => f k s.1 s.2.1) (l10_0 n _ _)) (fun s => [.k, .k, .d, .d, .d, .p (.dl 1 (List.map encL3 s.1) s.2.2), .p (.int .i64 s.2.1), .d, .d, .d, .d, .d, .d, .d, .d, .d, .d, .d, .d, .d, .d, .d, .d, .d, .d, .d, .d, .d, .d, .d, .d, .d, .d, .d, .d, .d, .d, .d, .d, .d, .d, .d, .d, .d, .d, .d, .d, .d, .d, .d, .d, .d, .d, .d, .d, .d, .d, .d, .d, .d, .d, .d, .d, .d, .d, .d, .d, .d]) (fun s => .tl s.2.2 :: L) hg (by repeat first | exact sZ | with_reducible apply sD | with_reducible apply sK | apply sP | apply sF | apply sN | apply sT) hS (by repeat first | exact nD | (apply nT; (· (repeat first | exact pH | apply pT))) | (apply nW; (· (repeat first | exact pH | apply pT)); (· (repeat first | exact kZ | apply kR | apply kF | apply kN | apply kE | apply kI | apply kT | apply kU))) | apply nF | apply nX) (fun _ => rfl) ?_; rintro k ⟨x1, x3, tl2⟩ H hg hS; (try dsimp only at hg); (try dsimp only at hS); rw [l10_0] at hg; refine eawp_sound noY_sound _ _ _ _ ?_; simp only [applyS_d, applyS_k, applyS_p, applyS_nil])
    | ((with_reducible refine atRet ?_); (with_reducible replace hg := Option.some.inj hg); subst hg; exact (RetK.go (hK _) (by first | exact rR | exact rT | exact rF | exact rN | exact rG (by repeat first | exact kZ | apply kR | apply kF | apply kN | apply kE | apply kI | apply kT | apply kU) | exact rU (by repeat first | exact aZ | apply aR | apply aF | apply aN | apply aT | refine aG (by (repeat first | exact kZ | apply kR | apply kF | apply kN | apply kE | apply kI | apply kT | apply kU)) ?_)) hS (by repeat first | exact nD | (apply nT; (· (repeat first | exact pH | apply pT))) | (apply nW; (· (repeat first | exact pH | apply pT)); (· (repeat first | exact kZ | apply kR | apply kF | apply kN | apply kE | apply kI | apply kT | apply kU))) | apply nF | apply nX)))
    | (simp only [hF, reduceIte] at hg)) <;> ((repeat ((with_reducible first | replace hg := guardN hg | replace hg := guardS3 hg | replace hg := guardS2 hg | replace hg := guardS1 hg | replace hg := gd4 hg | replace hg := gd3 hg | replace hg := gd2 hg | replace hg := gd1 hg); obtain ⟨h, hg⟩ := hg; replace hF := And.intro h hF)); replace F := hS.facts; (try simp only [Facts_obj, Facts_tl, Facts_own] at F); try simp only [EVA, reduceIte, reduceCtorEq, Nat.reduceLT, Nat.reduceLeDiff, Int.reduceEq, Int.reduceLT, Int.reduceLE, Nat.reduceMul, Int.reduceToNat, Nat.reduceAdd, Int.reduceAdd, Int.reduceSub, Int.reduceMul, Int.reduceNeg, Tryz.ntmps10, rs10, (show IntKind.i64.wrap 0 = 0 from rfl), (show IntKind.i64.wrap 1 = 1 from rfl), hF, F]))
/-- skymosaic/hash.mix -/
theorem rs78 : Tryz.f78.results.toList = [.tmp 4] := rfl
def g78 (n : Nat) (a0 : Int) (a1 : Int) : Option (Int) := some (bitsA .xor .u64 (IntKind.u64.wrap ((bitsA .xor .u64 a0 a1) * 11400714819323198485)) (Int.fdiv (IntKind.u64.wrap ((bitsA .xor .u64 a0 a1) * 11400714819323198485)) 4294967296))
theorem c78 {B : Nat} {w0 : World} {n : Nat} {a0 : Int} {a1 : Int} {H : AHeap} {L : List Item} {K : AV → AHeap → Prop} {r : (Int)} (hS : Hv H (L)) (hg : g78 n a0 a1 = some r) (hK : ∀ (H' : AHeap), Hv H' (L) → K (.int .u64 r) H') : ACall Tryz.prog B w0 78 [.int .u64 a0, .int .u64 a1] H K := by
  refine ACall.ret ?_
  unfold g78 at hg
  refine ACall.enter Tryz.func78 (by kernel_rfl) rfl (eawp_sound noY_sound _ _ _ _ ?_)
  have hF := True.intro
  have F := hS.facts
  have h0 := True.intro
  repeat' ((first
    | (clear h0)
    | (with_reducible exact noneE hg)
    | ((with_reducible refine Br.iteB hg (fun h hg => ?_) (fun h hg => ?_)) <;> replace hF := And.intro h hF)
    | ((with_reducible refine Br.iteP hg (fun h hg => ?_) (fun h hg => ?_)) <;> replace hF := And.intro h hF)
    | ((with_reducible refine branchB hg (fun h hg => ?_) (fun h hg => ?_)) <;> replace hF := And.intro h hF)
    | ((with_reducible refine atRet ?_); (with_reducible replace hg := Option.some.inj hg); subst hg; exact (RetK.go (hK ) (by first | exact rR | exact rT | exact rF | exact rN | exact rG (by repeat first | exact kZ | apply kR | apply kF | apply kN | apply kE | apply kI | apply kT | apply kU) | exact rU (by repeat first | exact aZ | apply aR | apply aF | apply aN | apply aT | refine aG (by (repeat first | exact kZ | apply kR | apply kF | apply kN | apply kE | apply kI | apply kT | apply kU)) ?_)) hS (by repeat first | exact nD | (apply nT; (· (repeat first | exact pH | apply pT))) | (apply nW; (· (repeat first | exact pH | apply pT)); (· (repeat first | exact kZ | apply kR | apply kF | apply kN | apply kE | apply kI | apply kT | apply kU))) | apply nF | apply nX)))
    | (simp only [hF, reduceIte] at hg)) <;> ((repeat ((with_reducible first | replace hg := guardN hg | replace hg := guardS3 hg | replace hg := guardS2 hg | replace hg := guardS1 hg | replace hg := gd4 hg | replace hg := gd3 hg | replace hg := gd2 hg | replace hg := gd1 hg); obtain ⟨h, hg⟩ := hg; replace hF := And.intro h hF)); replace F := hS.facts; (try simp only [Facts_obj, Facts_tl, Facts_own] at F); try simp only [EVA, reduceIte, reduceCtorEq, Nat.reduceLT, Nat.reduceLeDiff, Int.reduceEq, Int.reduceLT, Int.reduceLE, Nat.reduceMul, Int.reduceToNat, Nat.reduceAdd, Int.reduceAdd, Int.reduceSub, Int.reduceMul, Int.reduceNeg, Tryz.ntmps78, rs78, hF, F]))
/-- skymosaic/hash.words[string]$1 -/
def l99_0_1 {σ : Type} (n : Nat) (l99_0_0_REC : Int → σ → Option σ) (a1 : (List UInt8)) (f : Int → σ → Option (Bool × σ)) (x1 : Int) (x2 : σ) : Nat → Int → Int → Option σ
  | 0, _, _ => none
  | k8 + 1, x6, x7 => if x7 < (if (a1.length : Int) < (IntKind.i64.wrap (x1 + 8)) then (a1.length : Int) else (IntKind.i64.wrap (x1 + 8))) then (if (0 : Int) ≤ x7 ∧ x7 < (a1.length : Int) then (if ¬ (IntKind.i64.wrap (8 * (IntKind.i64.wrap (x7 - x1)))) < 0 then ((l99_0_1 n l99_0_0_REC a1 f x1 x2 k8) (bitsA .or .u64 x6 (IntKind.u64.wrap ((IntKind.u64.wrap ((a1.getD (Int.toNat x7) 0).toNat : Int)) * 2 ^ (min (Int.toNat (IntKind.i64.wrap (8 * (IntKind.i64.wrap (x7 - x1))))) (IntKind.u64.bits))))) (IntKind.i64.wrap (x7 + 1))) else none) else none) else ((f x6 x2).bind fun v13 => if v13.1 = true then (l99_0_0_REC (IntKind.i64.wrap (x1 + 8)) v13.2) else (some v13.2))
def l99_0_0 {σ : Type} (n : Nat) (a1 : (List UInt8)) (f : Int → σ → Option (Bool × σ)) : Nat → Int → σ → Option σ
  | 0, _, _ => none
  | k3 + 1, x1, x2 => if x1 < (a1.length : Int) then (l99_0_1 n (l99_0_0 n a1 f k3) a1 f x1 x2 n 0 x1) else (some x2)
theorem rs99_0 : Tryz.f99.results.toList = [] := rfl
def g99_0 {σ : Type} (n : Nat) (a1 : (List UInt8)) (f : Int → σ → Option (Bool × σ)) (it0 : σ) : Option σ := l99_0_0 n a1 f n 0 it0
theorem c99_0 {σ : Type} {B : Nat} {w0 : World} {n : Nat} {a1 : (List UInt8)} {lY : Nat} {pa1 : Nat} {f : Int → σ → Option (Bool × σ)} {I : σ → AHeap → Prop} {H : AHeap} {K : AV → AHeap → Prop} {it0 r : σ} (hg : g99_0 n a1 f it0 = some r) (hp_pa1 : ∀ (st : σ) (H' : AHeap), I st H' → H'[pa1]? = some (.cells ([.str a1]))) (hI : I it0 H) (hY : ∀ (y0 : Int) (st : σ) (H' : AHeap) (r : Bool × σ) (K' : AV → AHeap → Prop), I st H' → f y0 st = some r → (∀ H'', I r.2 H'' → K' (.bool r.1) H'') → roundY Tryz.prog B w0 lY [.int .u64 y0] H' K') (hK : ∀ H', I r H' → K (.tup []) H') : ACall Tryz.prog B w0 99 [.fn (.yield lY) [] [], .ptr pa1 0] H K := by
  unfold g99_0 at hg
  refine ACall.enter Tryz.func99 (by kernel_rfl) rfl (eawp_sound roundY_sound _ _ _ _ ?_)
  have hF := True.intro
  have F := And.intro (hp_pa1 _ _ hI) (trivial)
  have h0 := True.intro
  repeat' ((first
    | (clear h0)
    | (with_reducible exact noneE hg)
    | ((with_reducible refine Br.iteB hg (fun h hg => ?_) (fun h hg => ?_)) <;> replace hF := And.intro h hF)
    | ((with_reducible refine Br.iteP hg (fun h hg => ?_) (fun h hg => ?_)) <;> replace hF := And.intro h hF)
    | ((with_reducible refine branchB hg (fun h hg => ?_) (fun h hg => ?_)) <;> replace hF := And.intro h hF)
    | ((with_reducible refine atEx ?_); exact ⟨⟨_, _⟩, by repeat first | exact sZ | with_reducible apply sD | with_reducible apply sK | apply sP | apply sF | apply sN | apply sT, hg, hI⟩)
    | ((with_reducible refine atEx ?_); exact ⟨⟨_, _⟩, by repeat first | exact sZ | with_reducible apply sD | with_reducible apply sK | apply sP | apply sF | apply sN | apply sT, hg, hI⟩)
    | ((with_reducible refine atLoop ?_); (with_reducible refine pickL hg (rfl : _ = l99_0_1 n _ _ _ _ _ n _ _) ?_); refine AWP.loopJ (σ := Int × Int) ⟨_, _⟩ ((fun (f : Nat → Int → Int → Option σ) k (s : Int × Int) => f k s.1 s.2) (l99_0_1 n _ _ _ _ _)) (fun s => [.k, .k, .d, .k, .p (.int .u64 s.1), .p (.int .i64 s.2), .d, .d, .d, .d, .d, .d, .d, .d, .d, .d, .d, .d, .d, .d, .d, .d, .d, .d, .d, .d, .d, .d, .d, .d, .d, .d, .d, .d, .d, .d, .d]) (fun s H => I x2 H) hg (by repeat first | exact sZ | with_reducible apply sD | with_reducible apply sK | apply sP | apply sF | apply sN | apply sT) hI (fun _ => rfl) ?_; rintro k ⟨x6, x7⟩ H hg hI; (try dsimp only at hg); (try dsimp only at hI); rw [l99_0_1] at hg; refine eawp_sound roundY_sound _ _ _ _ ?_; simp only [applyS_d, applyS_k, applyS_p, applyS_nil])
    | ((with_reducible refine atLoop ?_); (with_reducible refine pickL hg (rfl : _ = l99_0_0 n _ _ n _ _) ?_); refine AWP.loopJ (σ := Int × σ) ⟨_, _⟩ ((fun (f : Nat → Int → σ → Option σ) k (s : Int × σ) => f k s.1 s.2) (l99_0_0 n _ _)) (fun s => [.k, .k, .d, .p (.int .i64 s.1), .d, .d, .d, .d, .d, .d, .d, .d, .d, .d, .d, .d, .d, .d, .d, .d, .d, .d, .d, .d, .d, .d, .d, .d, .d, .d, .d, .d, .d, .d, .d, .d, .d]) (fun s H => I s.2 H) hg (by repeat first | exact sZ | with_reducible apply sD | with_reducible apply sK | apply sP | apply sF | apply sN | apply sT) hI (fun _ => rfl) ?_; rintro k ⟨x1, x2⟩ H hg hI; (try dsimp only at hg); (try dsimp only at hI); rw [l99_0_0] at hg; refine eawp_sound roundY_sound _ _ _ _ ?_; simp only [applyS_d, applyS_k, applyS_p, applyS_nil])
    | ((with_reducible replace hg := Option.some.inj hg); subst hg; exact hK _ hI)
    | ((with_reducible replace hg := bind_some hg); obtain ⟨_, hc, hg⟩ := hg; refine hY _ _ _ _ _ hI hc ?_; intro H hI)
    | (simp only [hF, reduceIte] at hg)) <;> ((repeat ((with_reducible first | replace hg := guardN hg | replace hg := guardS3 hg | replace hg := guardS2 hg | replace hg := guardS1 hg | replace hg := gd4 hg | replace hg := gd3 hg | replace hg := gd2 hg | replace hg := gd1 hg); obtain ⟨h, hg⟩ := hg; replace hF := And.intro h hF)); replace F := And.intro (hp_pa1 _ _ hI) (trivial); try simp only [EVA, reduceIte, reduceCtorEq, Nat.reduceLT, Nat.reduceLeDiff, Int.reduceEq, Int.reduceLT, Int.reduceLE, Nat.reduceMul, Int.reduceToNat, Nat.reduceAdd, Int.reduceAdd, Int.reduceSub, Int.reduceMul, Int.reduceNeg, Tryz.ntmps99, rs99_0, (show IntKind.i64.wrap 8 = 8 from rfl), (show IntKind.i64.wrap 0 = 0 from rfl), (show IntKind.i64.wrap 1 = 1 from rfl), shlI, shrI, hF, F]))
/-- skymosaic/hash.Sum -/
def l45_0 (n : Nat) (a1 : List Int) : Nat → Int → Int → Option (Int)
  | 0, _, _ => none
  | k16 + 1, x14, x15 => if x14 < (a1.length : Int) then (if (0 : Int) ≤ x14 ∧ x14 < (a1.length : Int) then ((g78 n x15 (IntKind.u64.wrap (rd a1 x14))).bind fun v21 => (l45_0 n a1 k16) (IntKind.i64.wrap (x14 + 1)) v21) else none) else ((g78 n x15 0).bind fun v23 => some v23)
theorem rs45 : Tryz.f45.results.toList = [.tmp 4] := rfl
def g45 (n : Nat) (a0 : (List UInt8)) (a1 : List Int) : Option (Int) := (g99_0 n a0 (fun (w6 : Int) (s : Int) => (g78 n s w6).bind fun v7 => some (true, v7)) 0).bind fun v9 => (g78 n v9 (IntKind.u64.wrap (a0.length : Int))).bind fun v11 => (g78 n v11 (IntKind.u64.wrap (a1.length : Int))).bind fun v12 => l45_0 n a1 n 0 v12
theorem c45 {B : Nat} {w0 : World} {n : Nat} {a0 : (List UInt8)} {a1 : List Int} {ta1 : Tail} {H : AHeap} {L : List Item} {K : AV → AHeap → Prop} {r : (Int)} (hS : Hv H (L)) (hg : g45 n a0 a1 = some r) (hK : ∀ (H' : AHeap), Hv H' (L) → K (.int .u64 r) H') : ACall Tryz.prog B w0 45 [.str a0, .dl 1 (List.map (AV.int .i64) a1) ta1] H K := by
  refine ACall.ret ?_
  unfold g45 at hg
  refine ACall.enter Tryz.func45 (by kernel_rfl) rfl (eawp_sound noY_sound _ _ _ _ ?_)
  have hF := True.intro
  have F := hS.facts
  have h0 := True.intro
  repeat' ((first
    | (clear h0)
    | (with_reducible exact noneE hg)
    | ((with_reducible refine Br.iteB hg (fun h hg => ?_) (fun h hg => ?_)) <;> replace hF := And.intro h hF)
    | ((with_reducible refine Br.iteP hg (fun h hg => ?_) (fun h hg => ?_)) <;> replace hF := And.intro h hF)
    | ((with_reducible refine branchB hg (fun h hg => ?_) (fun h hg => ?_)) <;> replace hF := And.intro h hF)
    | ((with_reducible refine atAlloc2 53 5 ?_); refine alloc_go ty53 rfl rfl hS ?_; intro o5 H hS; simp only [AV.cells] at hS)
    | ((with_reducible refine atSto 53 ?_); refine sto_go ty53 (by repeat first | exact pH | apply pT) hS (by rfl) (by rfl) (by exact Nat.le_of_ble_eq_true rfl) ?_; intro H hS; simp only [putA_nil, putA_0, putA_s, List.cons_append, List.nil_append, AV.cells, List.length_cons, List.length_nil, List.drop_succ_cons, List.drop_zero, Nat.reduceAdd] at hS)
    | ((with_reducible refine atF 77 ?_); refine ACall.enter Tryz.func77 (by kernel_rfl) rfl (eawp_sound noY_sound _ _ _ _ ?_))
    | ((with_reducible refine atBox2 1 ?_); refine box_go rfl hS ?_; intro o10_1 H hS; simp only [AV.cells] at hS)
    | (refine hq_lp0 _ _ _ (hS.pull (by repeat first | exact pH | apply pT)) ?_; intro H hS; replace hg := Option.some.inj hg; subst hg; exact hK6_lp0 _ (hS.need0 (by repeat first | exact mD | (apply mT; (· (repeat first | exact pH | apply pT))) | apply mF | apply mX)))
    | ((with_reducible refine atF 78 ?_); (with_reducible replace hg := bind_some hg); obtain ⟨_, hc, hg⟩ := hg; refine ACall.wkN (fun H hS => c78 hS hc ?_) (by repeat first | exact aZ | apply aR | apply aF | apply aN | apply aT | refine aG (by (repeat first | exact kZ | apply kR | apply kF | apply kN | apply kE | apply kI | apply kT | apply kU)) ?_) hS (by repeat first | exact nD | (apply nT; (· (repeat first | exact pH | apply pT))) | (apply nW; (· (repeat first | exact pH | apply pT)); (· (repeat first | exact kZ | apply kR | apply kF | apply kN | apply kE | apply kI | apply kT | apply kU))) | apply nF | apply nX); intro  H hS)
    | ((with_reducible refine atRange ?_); refine AWP.wkN (N := .obj o5 (.cells [_]) :: .obj o10_1 (.cells [_]) :: L) hS (by repeat first | exact nD | (apply nT; (· (repeat first | exact pH | apply pT))) | (apply nW; (· (repeat first | exact pH | apply pT)); (· (repeat first | exact kZ | apply kR | apply kF | apply kN | apply kE | apply kI | apply kT | apply kU))) | apply nF | apply nX) ?_; intro H hS; refine AWP.rangeGo3 rfl hS ?_; intro lp0 H lp_lp0 KE_lp0 hr_lp0 he_lp0 hS; (with_reducible replace hg := bind_some hg); obtain ⟨_, hc, hg⟩ := hg; refine c99_0 (σ := Int) (I := ((fun c0 (s : Int) H' => Hv H' (.obj lp0 lp_lp0 :: .obj o5 (.cells [.int .u64 s]) :: .obj o10_1 (.cells [c0]) :: L)) _)) hc (fun s9 H9 h9 => by have h8 := h9; exact (h8.pull (x := .obj o10_1 _) (by repeat first | exact pH | apply pT)).each _ (List.mem_cons_self ..)) ?_ ?_ ?_ <;> first | exact (hS.need0 (by repeat first | exact mD | (apply mT; (· (repeat first | exact pH | apply pT))) | apply mF | apply mX)) | (rintro w6 x5 H r K6 hS hg hK6_lp0; (try dsimp only at hg); (try dsimp only at hS); refine hr_lp0 _ _ _ _ _ hS rfl (by simp only [EVA, reduceIte, reduceCtorEq, Nat.reduceLT, Nat.reduceLeDiff, Int.reduceEq, Int.reduceLT, Int.reduceLE, Nat.reduceMul, Int.reduceToNat, Nat.reduceAdd, Int.reduceAdd, Int.reduceSub, Int.reduceMul, Int.reduceNeg, doneQ_normal] <;> first | exact ⟨rfl, rfl⟩ | exact rfl) ?_; intro H lp2_lp0 Qr_lp0 hS hq_lp0; refine eawp_sound noY_sound _ _ _ _ ?_) | (rintro H hS; (try dsimp only at hS); refine he_lp0 _ _ _ hS ?_; intro H hS))
    | ((with_reducible refine atEx ?_); exact ⟨⟨_, _⟩, _, by repeat first | exact sZ | with_reducible apply sD | with_reducible apply sK | apply sP | apply sF | apply sN | apply sT, hg, hS, by repeat first | exact nD | (apply nT; (· (repeat first | exact pH | apply pT))) | (apply nW; (· (repeat first | exact pH | apply pT)); (· (repeat first | exact kZ | apply kR | apply kF | apply kN | apply kE | apply kI | apply kT | apply kU))) | apply nF | apply nX⟩)
    | ((with_reducible refine atLoop ?_); (with_reducible refine pickL hg (rfl : _ = l45_0 n _ n _ _) ?_); refine AWP.loopE (σ := Int × Int) ⟨_, _⟩ ((fun (f : Nat → Int → Int → Option (Int)) k (s : Int × Int) => f k s.1 s.2) (l45_0 n _)) (fun s => [.d, .d, .d, .d, .d, .k, .d, .d, .d, .d, .d, .d, .d, .d, .d, .d, .d, .d, .d, .d, .d, .d, .d, .d, .k, .k, .p (.int .i64 s.1), .d, .d, .d, .d, .d, .d, .d, .d, .d, .d]) ((fun c0 (s : Int × Int) => .obj o5 (.cells [.int .u64 s.2]) :: .obj o10_1 (.cells [c0]) :: L) _) hg (by repeat first | exact sZ | with_reducible apply sD | with_reducible apply sK | apply sP | apply sF | apply sN | apply sT) hS (by repeat first | exact nD | (apply nT; (· (repeat first | exact pH | apply pT))) | (apply nW; (· (repeat first | exact pH | apply pT)); (· (repeat first | exact kZ | apply kR | apply kF | apply kN | apply kE | apply kI | apply kT | apply kU))) | apply nF | apply nX) (fun _ => rfl) ?_; rintro k ⟨x14, x15⟩ H hg hS; (try dsimp only at hg); (try dsimp only at hS); rw [l45_0] at hg; refine eawp_sound noY_sound _ _ _ _ ?_; simp only [applyS_d, applyS_k, applyS_p, applyS_nil])
    | ((with_reducible refine atRet ?_); (with_reducible replace hg := Option.some.inj hg); subst hg; exact (RetK.go (hK ) (by first | exact rR | exact rT | exact rF | exact rN | exact rG (by repeat first | exact kZ | apply kR | apply kF | apply kN | apply kE | apply kI | apply kT | apply kU) | exact rU (by repeat first | exact aZ | apply aR | apply aF | apply aN | apply aT | refine aG (by (repeat first | exact kZ | apply kR | apply kF | apply kN | apply kE | apply kI | apply kT | apply kU)) ?_)) hS (by repeat first | exact nD | (apply nT; (· (repeat first | exact pH | apply pT))) | (apply nW; (· (repeat first | exact pH | apply pT)); (· (repeat first | exact kZ | apply kR | apply kF | apply kN | apply kE | apply kI | apply kT | apply kU))) | apply nF | apply nX)))
    | (simp only [hF, reduceIte] at hg)) <;> ((repeat ((with_reducible first | replace hg := guardN hg | replace hg := guardS3 hg | replace hg := guardS2 hg | replace hg := guardS1 hg | replace hg := gd4 hg | replace hg := gd3 hg | replace hg := gd2 hg | replace hg := gd1 hg); obtain ⟨h, hg⟩ := hg; replace hF := And.intro h hF)); replace F := hS.facts; (try simp only [Facts_obj, Facts_tl, Facts_own] at F); try simp only [EVA, reduceIte, reduceCtorEq, Nat.reduceLT, Nat.reduceLeDiff, Int.reduceEq, Int.reduceLT, Int.reduceLE, Nat.reduceMul, Int.reduceToNat, Nat.reduceAdd, Int.reduceAdd, Int.reduceSub, Int.reduceMul, Int.reduceNeg, Tryz.ntmps45, rs45, (show IntKind.i64.wrap 1 = 1 from rfl), Tryz.ntmps77, (show Tryz.f77.results.toList = [.tmp 2] from rfl), hF, F]))
/-- skymosaic/hash.Pair -/
theorem rs46 : Tryz.f46.results.toList = [.tmp 4] := rfl
def g46 (n : Nat) (a0 : Int) (a1 : Int) : Option (Int) := (g45 n ([112, 97, 105, 114]) ([IntKind.i64.wrap a0, IntKind.i64.wrap a1] : List Int)).bind fun v1 => some v1
theorem c46 {B : Nat} {w0 : World} {n : Nat} {a0 : Int} {a1 : Int} {H : AHeap} {L : List Item} {K : AV → AHeap → Prop} {r : (Int)} (hS : Hv H (L)) (hg : g46 n a0 a1 = some r) (hK : ∀ (H' : AHeap), Hv H' (L) → K (.int .u64 r) H') : ACall Tryz.prog B w0 46 [.int .u64 a0, .int .u64 a1] H K := by
  refine ACall.ret ?_
  unfold g46 at hg
  refine ACall.enter Tryz.func46 (by kernel_rfl) rfl (eawp_sound noY_sound _ _ _ _ ?_)
  have hF := True.intro
  have F := hS.facts
  have h0 := True.intro
  repeat' ((first
    | (clear h0)
    | (with_reducible exact noneE hg)
    | ((with_reducible refine Br.iteB hg (fun h hg => ?_) (fun h hg => ?_)) <;> replace hF := And.intro h hF)
    | ((with_reducible refine Br.iteP hg (fun h hg => ?_) (fun h hg => ?_)) <;> replace hF := And.intro h hF)
    | ((with_reducible refine branchB hg (fun h hg => ?_) (fun h hg => ?_)) <;> replace hF := And.intro h hF)
    | ((with_reducible refine atF 45 ?_); (with_reducible replace hg := bind_some hg); obtain ⟨_, hc, hg⟩ := hg; refine ACall.wkN (fun H hS => c45 hS hc ?_) (by repeat first | exact aZ | apply aR | apply aF | apply aN | apply aT | refine aG (by (repeat first | exact kZ | apply kR | apply kF | apply kN | apply kE | apply kI | apply kT | apply kU)) ?_) hS (by repeat first | exact nD | (apply nT; (· (repeat first | exact pH | apply pT))) | (apply nW; (· (repeat first | exact pH | apply pT)); (· (repeat first | exact kZ | apply kR | apply kF | apply kN | apply kE | apply kI | apply kT | apply kU))) | apply nF | apply nX); intro  H hS)
    | ((with_reducible refine atRet ?_); (with_reducible replace hg := Option.some.inj hg); subst hg; exact (RetK.go (hK ) (by first | exact rR | exact rT | exact rF | exact rN | exact rG (by repeat first | exact kZ | apply kR | apply kF | apply kN | apply kE | apply kI | apply kT | apply kU) | exact rU (by repeat first | exact aZ | apply aR | apply aF | apply aN | apply aT | refine aG (by (repeat first | exact kZ | apply kR | apply kF | apply kN | apply kE | apply kI | apply kT | apply kU)) ?_)) hS (by repeat first | exact nD | (apply nT; (· (repeat first | exact pH | apply pT))) | (apply nW; (· (repeat first | exact pH | apply pT)); (· (repeat first | exact kZ | apply kR | apply kF | apply kN | apply kE | apply kI | apply kT | apply kU))) | apply nF | apply nX)))
    | (simp only [hF, reduceIte] at hg)) <;> ((repeat ((with_reducible first | replace hg := guardN hg | replace hg := guardS3 hg | replace hg := guardS2 hg | replace hg := guardS1 hg | replace hg := gd4 hg | replace hg := gd3 hg | replace hg := gd2 hg | replace hg := gd1 hg); obtain ⟨h, hg⟩ := hg; replace hF := And.intro h hF)); replace F := hS.facts; (try simp only [Facts_obj, Facts_tl, Facts_own] at F); try simp only [EVA, reduceIte, reduceCtorEq, Nat.reduceLT, Nat.reduceLeDiff, Int.reduceEq, Int.reduceLT, Int.reduceLE, Nat.reduceMul, Int.reduceToNat, Nat.reduceAdd, Int.reduceAdd, Int.reduceSub, Int.reduceMul, Int.reduceNeg, Tryz.ntmps46, rs46, hF, F]))
/-- skymosaic/hash.words[[]byte]$1 -/
def l100_0_1 {σ : Type} (n : Nat) (l100_0_0_REC : Int → σ → Option σ) (a1 : List Int) (f : Int → σ → Option (Bool × σ)) (x1 : Int) (x2 : σ) : Nat → Int → Int → Option σ
  | 0, _, _ => none
  | k8 + 1, x6, x7 => if x7 < (if (a1.length : Int) < (IntKind.i64.wrap (x1 + 8)) then (a1.length : Int) else (IntKind.i64.wrap (x1 + 8))) then (if (0 : Int) ≤ x7 ∧ x7 < (a1.length : Int) then (if ¬ (IntKind.i64.wrap (8 * (IntKind.i64.wrap (x7 - x1)))) < 0 then ((l100_0_1 n l100_0_0_REC a1 f x1 x2 k8) (bitsA .or .u64 x6 (IntKind.u64.wrap ((IntKind.u64.wrap (rd a1 x7)) * 2 ^ (min (Int.toNat (IntKind.i64.wrap (8 * (IntKind.i64.wrap (x7 - x1))))) (IntKind.u64.bits))))) (IntKind.i64.wrap (x7 + 1))) else none) else none) else ((f x6 x2).bind fun v14 => if v14.1 = true then (l100_0_0_REC (IntKind.i64.wrap (x1 + 8)) v14.2) else (some v14.2))
def l100_0_0 {σ : Type} (n : Nat) (a1 : List Int) (f : Int → σ → Option (Bool × σ)) : Nat → Int → σ → Option σ
  | 0, _, _ => none
  | k3 + 1, x1, x2 => if x1 < (a1.length : Int) then (l100_0_1 n (l100_0_0 n a1 f k3) a1 f x1 x2 n 0 x1) else (some x2)
theorem rs100_0 : Tryz.f100.results.toList = [] := rfl
def g100_0 {σ : Type} (n : Nat) (a1 : List Int) (f : Int → σ → Option (Bool × σ)) (it0 : σ) : Option σ := l100_0_0 n a1 f n 0 it0
theorem c100_0 {σ : Type} {B : Nat} {w0 : World} {n : Nat} {a1 : List Int} {lY : Nat} {pa1 : Nat} {f : Int → σ → Option (Bool × σ)} {I : σ → AHeap → Prop} {H : AHeap} {K : AV → AHeap → Prop} {it0 r : σ} (hg : g100_0 n a1 f it0 = some r) (hp_pa1 : ∀ (st : σ) (H' : AHeap), I st H' → H'[pa1]? = some (.cells ([.dl 1 (List.map (AV.int .u8) a1) .none]))) (hI : I it0 H) (hY : ∀ (y0 : Int) (st : σ) (H' : AHeap) (r : Bool × σ) (K' : AV → AHeap → Prop), I st H' → f y0 st = some r → (∀ H'', I r.2 H'' → K' (.bool r.1) H'') → roundY Tryz.prog B w0 lY [.int .u64 y0] H' K') (hK : ∀ H', I r H' → K (.tup []) H') : ACall Tryz.prog B w0 100 [.fn (.yield lY) [] [], .ptr pa1 0] H K := by
  unfold g100_0 at hg
  refine ACall.enter Tryz.func100 (by kernel_rfl) rfl (eawp_sound roundY_sound _ _ _ _ ?_)
  have hF := True.intro
  have F := And.intro (hp_pa1 _ _ hI) (trivial)
  have h0 := True.intro
  repeat' ((first
    | (clear h0)
    | (with_reducible exact noneE hg)
    | ((with_reducible refine Br.iteB hg (fun h hg => ?_) (fun h hg => ?_)) <;> replace hF := And.intro h hF)
    | ((with_reducible refine Br.iteP hg (fun h hg => ?_) (fun h hg => ?_)) <;> replace hF := And.intro h hF)
    | ((with_reducible refine branchB hg (fun h hg => ?_) (fun h hg => ?_)) <;> replace hF := And.intro h hF)
    | ((with_reducible refine atEx ?_); exact ⟨⟨_, _⟩, by repeat first | exact sZ | with_reducible apply sD | with_reducible apply sK | apply sP | apply sF | apply sN | apply sT, hg, hI⟩)
    | ((with_reducible refine atEx ?_); exact ⟨⟨_, _⟩, by repeat first | exact sZ | with_reducible apply sD | with_reducible apply sK | apply sP | apply sF | apply sN | apply sT, hg, hI⟩)
    | ((with_reducible refine atLoop ?_); (with_reducible refine pickL hg (rfl : _ = l100_0_1 n _ _ _ _ _ n _ _) ?_); refine AWP.loopJ (σ := Int × Int) ⟨_, _⟩ ((fun (f : Nat → Int → Int → Option σ) k (s : Int × Int) => f k s.1 s.2) (l100_0_1 n _ _ _ _ _)) (fun s => [.k, .k, .d, .k, .p (.int .u64 s.1), .p (.int .i64 s.2), .d, .d, .d, .d, .d, .d, .d, .d, .d, .d, .d, .d, .d, .d, .d, .d, .d, .d, .d, .d, .d, .d, .d, .d, .d, .d, .d, .d, .d, .d, .d, .d]) (fun s H => I x2 H) hg (by repeat first | exact sZ | with_reducible apply sD | with_reducible apply sK | apply sP | apply sF | apply sN | apply sT) hI (fun _ => rfl) ?_; rintro k ⟨x6, x7⟩ H hg hI; (try dsimp only at hg); (try dsimp only at hI); rw [l100_0_1] at hg; refine eawp_sound roundY_sound _ _ _ _ ?_; simp only [applyS_d, applyS_k, applyS_p, applyS_nil])
    | ((with_reducible refine atLoop ?_); (with_reducible refine pickL hg (rfl : _ = l100_0_0 n _ _ n _ _) ?_); refine AWP.loopJ (σ := Int × σ) ⟨_, _⟩ ((fun (f : Nat → Int → σ → Option σ) k (s : Int × σ) => f k s.1 s.2) (l100_0_0 n _ _)) (fun s => [.k, .k, .d, .p (.int .i64 s.1), .d, .d, .d, .d, .d, .d, .d, .d, .d, .d, .d, .d, .d, .d, .d, .d, .d, .d, .d, .d, .d, .d, .d, .d, .d, .d, .d, .d, .d, .d, .d, .d, .d, .d]) (fun s H => I s.2 H) hg (by repeat first | exact sZ | with_reducible apply sD | with_reducible apply sK | apply sP | apply sF | apply sN | apply sT) hI (fun _ => rfl) ?_; rintro k ⟨x1, x2⟩ H hg hI; (try dsimp only at hg); (try dsimp only at hI); rw [l100_0_0] at hg; refine eawp_sound roundY_sound _ _ _ _ ?_; simp only [applyS_d, applyS_k, applyS_p, applyS_nil])
    | ((with_reducible replace hg := Option.some.inj hg); subst hg; exact hK _ hI)
    | ((with_reducible replace hg := bind_some hg); obtain ⟨_, hc, hg⟩ := hg; refine hY _ _ _ _ _ hI hc ?_; intro H hI)
    | (simp only [hF, reduceIte] at hg)) <;> ((repeat ((with_reducible first | replace hg := guardN hg | replace hg := guardS3 hg | replace hg := guardS2 hg | replace hg := guardS1 hg | replace hg := gd4 hg | replace hg := gd3 hg | replace hg := gd2 hg | replace hg := gd1 hg); obtain ⟨h, hg⟩ := hg; replace hF := And.intro h hF)); replace F := And.intro (hp_pa1 _ _ hI) (trivial); try simp only [EVA, reduceIte, reduceCtorEq, Nat.reduceLT, Nat.reduceLeDiff, Int.reduceEq, Int.reduceLT, Int.reduceLE, Nat.reduceMul, Int.reduceToNat, Nat.reduceAdd, Int.reduceAdd, Int.reduceSub, Int.reduceMul, Int.reduceNeg, Tryz.ntmps100, rs100_0, (show IntKind.i64.wrap 8 = 8 from rfl), (show IntKind.i64.wrap 0 = 0 from rfl), (show IntKind.i64.wrap 1 = 1 from rfl), shlI, shrI, hF, F]))
/-- skymosaic/hash.Bytes -/
theorem rs47 : Tryz.f47.results.toList = [.tmp 4] := rfl
def g47 (n : Nat) (a0 : (List UInt8)) (a1 : List Int) : Option (Int) := (g100_0 n a1 (fun (w6 : Int) (s : List Int) => if s.length + 1 ≤ 17592186044416 then (some (true, s ++ ([IntKind.i64.wrap w6] : List Int))) else none) ([] : List Int)).bind fun v10 => if v10.length + 1 ≤ 17592186044416 then ((g45 n a0 (v10 ++ ([(a1.length : Int)] : List Int))).bind fun v14 => some v14) else none
theorem c47 {B : Nat} {w0 : World} {n : Nat} {a0 : (List UInt8)} {a1 : List Int} {ta1 : Tail} {H : AHeap} {L : List Item} {K : AV → AHeap → Prop} {r : (Int)} (hS : Hv H (L)) (hg : g47 n a0 a1 = some r) (hK : ∀ (H' : AHeap), Hv H' (L) → K (.int .u64 r) H') : ACall Tryz.prog B w0 47 [.str a0, .dl 1 (List.map (AV.int .u8) a1) ta1] H K := by
  refine ACall.ret ?_
  unfold g47 at hg
  refine ACall.enter Tryz.func47 (by kernel_rfl) rfl (eawp_sound noY_sound _ _ _ _ ?_)
  have hF := True.intro
  have F := hS.facts
  have h0 := True.intro
  repeat' ((first
    | (clear h0)
    | (with_reducible exact noneE hg)
    | ((with_reducible refine Br.iteB hg (fun h hg => ?_) (fun h hg => ?_)) <;> replace hF := And.intro h hF)
    | ((with_reducible refine Br.iteP hg (fun h hg => ?_) (fun h hg => ?_)) <;> replace hF := And.intro h hF)
    | ((with_reducible refine branchB hg (fun h hg => ?_) (fun h hg => ?_)) <;> replace hF := And.intro h hF)
    | ((with_reducible refine atAlloc2 22 5 ?_); refine alloc_go ty22 rfl rfl hS ?_; intro o5 H hS; simp only [AV.cells] at hS)
    | ((with_reducible refine atF 79 ?_); refine ACall.enter Tryz.func79 (by kernel_rfl) rfl (eawp_sound noY_sound _ _ _ _ ?_))
    | ((with_reducible refine atBox2 1 ?_); refine box_go rfl hS ?_; intro o8_1 H hS; simp only [AV.cells] at hS)
    | (refine hq_lp0 _ _ _ (hS.pull (by repeat first | exact pH | apply pT)) ?_; intro H hS; replace hg := Option.some.inj hg; subst hg; exact hK6_lp0 _ ⟨_, hS.need0 (by repeat first | exact mD | (apply mT; (· (repeat first | exact pH | apply pT))) | apply mF | apply mX)⟩)
    | ((with_reducible refine atAppE2 14 ?_); refine app_map apt22 (src1_AVinti64 ty22 rfl) (by repeat first | exact pH | apply pT) hS (by first | simpa using hF.1 | simp only [List.length_cons, List.length_nil, Nat.zero_add, hF] | simpa using hF.2.1 | simpa using hF.2.2.1 | simpa using hF.2.2.2.1 | simpa using hF.2.2.2.2.1 | (simp at hF ⊢; omega)) ?_; intro t14 H hS)
    | ((with_reducible refine atSto 22 ?_); refine sto_go ty22 (by repeat first | exact pH | apply pT) hS (by rfl) (by rfl) (by exact Nat.le_of_ble_eq_true rfl) ?_; intro H hS; simp only [putA_nil, putA_0, putA_s, List.cons_append, List.nil_append, AV.cells, List.length_cons, List.length_nil, List.drop_succ_cons, List.drop_zero, Nat.reduceAdd] at hS)
    | ((with_reducible refine atRange ?_); refine AWP.wkN (N := .obj o5 (.cells [.dl 1 (List.map (AV.int .i64) ([] : List Int)) _]) :: .obj o8_1 (.cells [.dl 1 (List.map (AV.int .u8) _) .none]) :: L) hS (by repeat first | exact nD | (apply nT; (· (repeat first | exact pH | apply pT))) | (apply nW; (· (repeat first | exact pH | apply pT)); (· (repeat first | exact kZ | apply kR | apply kF | apply kN | apply kE | apply kI | apply kT | apply kU))) | apply nF | apply nX) ?_; intro H hS; refine AWP.rangeGo3 rfl hS ?_; intro lp0 H lp_lp0 KE_lp0 hr_lp0 he_lp0 hS; (with_reducible replace hg := bind_some hg); obtain ⟨_, hc, hg⟩ := hg; refine c100_0 (σ := List Int) (I := ((fun c0 (s : List Int) H' => ∃ tl5 : Tail, Hv H' (.obj lp0 lp_lp0 :: .obj o5 (.cells [.dl 1 (List.map (AV.int .i64) s) tl5]) :: .obj o8_1 (.cells [c0]) :: .tl tl5 :: L)) _)) hc (fun s9 H9 h9 => by obtain ⟨_, h8⟩ := h9; exact (h8.pull (x := .obj o8_1 _) (by repeat first | exact pH | apply pT)).each _ (List.mem_cons_self ..)) ?_ ?_ ?_ <;> first | exact ⟨_, hS.need0 (by repeat first | exact mD | (apply mT; (· (repeat first | exact pH | apply pT))) | apply mF | apply mX)⟩ | (rintro w6 x4 H r K6 ⟨tl5, hS⟩ hg hK6_lp0; (try dsimp only at hg); (try dsimp only at hS); refine hr_lp0 _ _ _ _ _ hS rfl (by simp only [EVA, reduceIte, reduceCtorEq, Nat.reduceLT, Nat.reduceLeDiff, Int.reduceEq, Int.reduceLT, Int.reduceLE, Nat.reduceMul, Int.reduceToNat, Nat.reduceAdd, Int.reduceAdd, Int.reduceSub, Int.reduceMul, Int.reduceNeg, doneQ_normal] <;> first | exact ⟨rfl, rfl⟩ | exact rfl) ?_; intro H lp2_lp0 Qr_lp0 hS hq_lp0; refine eawp_sound noY_sound _ _ _ _ ?_) | (rintro H ⟨tl5, hS⟩; (try dsimp only at hS); refine he_lp0 _ _ _ hS ?_; intro H hS))
    | ((with_reducible refine atAppE2 20 ?_); refine app_map apt22 (src1_AVinti64 ty22 rfl) (by repeat first | exact pH | apply pT) hS (by first | simpa using hF.1 | simp only [List.length_cons, List.length_nil, Nat.zero_add, hF] | simpa using hF.2.1 | simpa using hF.2.2.1 | simpa using hF.2.2.2.1 | simpa using hF.2.2.2.2.1 | (simp at hF ⊢; omega)) ?_; intro t20 H hS)
    | ((with_reducible refine atF 45 ?_); (with_reducible replace hg := bind_some hg); obtain ⟨_, hc, hg⟩ := hg; refine ACall.wkN (fun H hS => c45 hS hc ?_) (by repeat first | exact aZ | apply aR | apply aF | apply aN | apply aT | refine aG (by (repeat first | exact kZ | apply kR | apply kF | apply kN | apply kE | apply kI | apply kT | apply kU)) ?_) hS (by repeat first | exact nD | (apply nT; (· (repeat first | exact pH | apply pT))) | (apply nW; (· (repeat first | exact pH | apply pT)); (· (repeat first | exact kZ | apply kR | apply kF | apply kN | apply kE | apply kI | apply kT | apply kU))) | apply nF | apply nX); intro  H hS)
    | ((with_reducible refine atRet ?_); (with_reducible replace hg := Option.some.inj hg); subst hg; exact (RetK.go (hK ) (by first | exact rR | exact rT | exact rF | exact rN | exact rG (by repeat first | exact kZ | apply kR | apply kF | apply kN | apply kE | apply kI | apply kT | apply kU) | exact rU (by repeat first | exact aZ | apply aR | apply aF | apply aN | apply aT | refine aG (by (repeat first | exact kZ | apply kR | apply kF | apply kN | apply kE | apply kI | apply kT | apply kU)) ?_)) hS (by repeat first | exact nD | (apply nT; (· (repeat first | exact pH | apply pT))) | (apply nW; (· (repeat first | exact pH | apply pT)); (· (repeat first | exact kZ | apply kR | apply kF | apply kN | apply kE | apply kI | apply kT | apply kU))) | apply nF | apply nX)))
    | (simp only [hF, reduceIte] at hg)) <;> ((repeat ((with_reducible first | replace hg := guardN hg | replace hg := guardS3 hg | replace hg := guardS2 hg | replace hg := guardS1 hg | replace hg := gd4 hg | replace hg := gd3 hg | replace hg := gd2 hg | replace hg := gd1 hg); obtain ⟨h, hg⟩ := hg; replace hF := And.intro h hF)); replace F := hS.facts; (try simp only [Facts_obj, Facts_tl, Facts_own] at F); try simp only [EVA, reduceIte, reduceCtorEq, Nat.reduceLT, Nat.reduceLeDiff, Int.reduceEq, Int.reduceLT, Int.reduceLE, Nat.reduceMul, Int.reduceToNat, Nat.reduceAdd, Int.reduceAdd, Int.reduceSub, Int.reduceMul, Int.reduceNeg, Tryz.ntmps47, rs47, Tryz.ntmps79, (show Tryz.f79.results.toList = [.tmp 2] from rfl), hF, F]))
/-- (*skymosaic/wire.Writer).Uint -/
def l80_0 (n : Nat) : Nat → Int → List Int → Option (S5)
  | 0, _, _ => none
  | k4 + 1, x1, x2 => if 128 ≤ x1 then (if x2.length + 1 ≤ 140737488355328 then ((l80_0 n k4) (Int.fdiv x1 128) (x2 ++ ([bitsA .or .u8 (IntKind.u8.wrap x1) 128] : List Int))) else none) else (if x2.length + 1 ≤ 140737488355328 then (some (⟨x2 ++ ([IntKind.u8.wrap x1] : List Int)⟩ : S5)) else none)
theorem rs80 : Tryz.f80.results.toList = [] := rfl
def g80 (n : Nat) (a0 : S5) (a1 : Int) : Option (S5) := l80_0 n n a1 a0.c0
theorem c80 {B : Nat} {w0 : World} {n : Nat} {a0 : S5} {a1 : Int} {ta0_0 : Tail} {pa0 : Nat} {H : AHeap} {L : List Item} {K : AV → AHeap → Prop} {r : (S5)} (hS : Hv H (.obj pa0 (.cells ([.dl 1 (List.map (AV.int .u8) a0.c0) ta0_0])) :: .tl ta0_0 :: L)) (hg : g80 n a0 a1 = some r) (hK : ∀ (qo0_0 : Tail) (H' : AHeap), Hv H' (.obj pa0 (.cells ([.dl 1 (List.map (AV.int .u8) r.c0) qo0_0])) :: .tl qo0_0 :: L) → K (.tup []) H') : ACall Tryz.prog B w0 80 [.ptr pa0 0, .int .u64 a1] H K := by
  refine ACall.ret ?_
  unfold g80 at hg
  refine ACall.enter Tryz.func80 (by kernel_rfl) rfl (eawp_sound noY_sound _ _ _ _ ?_)
  have hF := True.intro
  have F := hS.facts
  have h0 := True.intro
  repeat' ((first
    | (clear h0)
    | (with_reducible exact noneE hg)
    | ((with_reducible refine Br.iteB hg (fun h hg => ?_) (fun h hg => ?_)) <;> replace hF := And.intro h hF)
    | ((with_reducible refine Br.iteP hg (fun h hg => ?_) (fun h hg => ?_)) <;> replace hF := And.intro h hF)
    | ((with_reducible refine branchB hg (fun h hg => ?_) (fun h hg => ?_)) <;> replace hF := And.intro h hF)
    | ((with_reducible refine atEx ?_); exact ⟨⟨_, _, _⟩, _, by repeat first | exact sZ | with_reducible apply sD | with_reducible apply sK | apply sP | apply sF | apply sN | apply sT, hg, hS, by repeat first | exact nD | (apply nT; (· (repeat first | exact pH | apply pT))) | (apply nW; (· (repeat first | exact pH | apply pT)); (· (repeat first | exact kZ | apply kR | apply kF | apply kN | apply kE | apply kI | apply kT | apply kU))) | apply nF | apply nX⟩)
    | ((with_reducible refine atAppE2 17 ?_); refine app_map apt67 (src1_AVintu8 ty67 rfl) (by repeat first | exact pH | apply pT) hS (by first | simpa using hF.1 | simp only [List.length_cons, List.length_nil, Nat.zero_add, hF] | simpa using hF.2.1 | simpa using hF.2.2.1 | simpa using hF.2.2.2.1 | simpa using hF.2.2.2.2.1 | (simp at hF ⊢; omega)) ?_; intro t17 H hS)
    | ((with_reducible refine atSto 67 ?_); refine sto_go ty67 (by repeat first | exact pH | apply pT) hS (by rfl) (by rfl) (by exact Nat.le_of_ble_eq_true rfl) ?_; intro H hS; simp only [putA_nil, putA_0, putA_s, List.cons_append, List.nil_append, AV.cells, List.length_cons, List.length_nil, List.drop_succ_cons, List.drop_zero, Nat.reduceAdd] at hS)
    | ((with_reducible refine atAppE2 28 ?_); refine app_map apt67 (src1_AVintu8 ty67 rfl) (by repeat first | exact pH | apply pT) hS (by first | simpa using hF.1 | simp only [List.length_cons, List.length_nil, Nat.zero_add, hF] | simpa using hF.2.1 | simpa using hF.2.2.1 | simpa using hF.2.2.2.1 | simpa using hF.2.2.2.2.1 | (simp at hF ⊢; omega)) ?_; intro t28 H hS)
    | ((with_reducible refine atLoop ?_); (with_reducible refine pickL hg (rfl : _ = l80_0 n  n _ _) ?_); refine AWP.loopE (σ := Int × List Int × Tail) ⟨_, _, _⟩ ((fun (f : Nat → Int → List Int → Option (S5)) k (s : Int × List Int × Tail) => f k s.1 s.2.1) (l80_0 n )) (fun s => [.k, .p (.int .u64 s.1), .d, .d, .d, .d, .d, .d, .d, .d, .d, .d, .d, .d, .d, .d, .d, .d, .d, .d, .d, .d, .d, .d, .d, .d, .d, .d, .d, .d, .d]) (fun s => .obj pa0 (.cells [.dl 1 (List.map (AV.int .u8) s.2.1) s.2.2]) :: .tl s.2.2 :: L) hg (by repeat first | exact sZ | with_reducible apply sD | with_reducible apply sK | apply sP | apply sF | apply sN | apply sT) hS (by repeat first | exact nD | (apply nT; (· (repeat first | exact pH | apply pT))) | (apply nW; (· (repeat first | exact pH | apply pT)); (· (repeat first | exact kZ | apply kR | apply kF | apply kN | apply kE | apply kI | apply kT | apply kU))) | apply nF | apply nX) (fun _ => rfl) ?_; rintro k ⟨x1, x2, tl3⟩ H hg hS; (try dsimp only at hg); (try dsimp only at hS); rw [l80_0] at hg; refine eawp_sound noY_sound _ _ _ _ ?_; simp only [applyS_d, applyS_k, applyS_p, applyS_nil])
    | ((with_reducible refine atRet ?_); (with_reducible replace hg := Option.some.inj hg); subst hg; exact (RetK.go (hK _) (by first | exact rR | exact rT | exact rF | exact rN | exact rG (by repeat first | exact kZ | apply kR | apply kF | apply kN | apply kE | apply kI | apply kT | apply kU) | exact rU (by repeat first | exact aZ | apply aR | apply aF | apply aN | apply aT | refine aG (by (repeat first | exact kZ | apply kR | apply kF | apply kN | apply kE | apply kI | apply kT | apply kU)) ?_)) hS (by repeat first | exact nD | (apply nT; (· (repeat first | exact pH | apply pT))) | (apply nW; (· (repeat first | exact pH | apply pT)); (· (repeat first | exact kZ | apply kR | apply kF | apply kN | apply kE | apply kI | apply kT | apply kU))) | apply nF | apply nX)))
    | (simp only [hF, reduceIte] at hg)) <;> ((repeat ((with_reducible first | replace hg := guardN hg | replace hg := guardS3 hg | replace hg := guardS2 hg | replace hg := guardS1 hg | replace hg := gd4 hg | replace hg := gd3 hg | replace hg := gd2 hg | replace hg := gd1 hg); obtain ⟨h, hg⟩ := hg; replace hF := And.intro h hF)); replace F := hS.facts; (try simp only [Facts_obj, Facts_tl, Facts_own] at F); try simp only [EVA, reduceIte, reduceCtorEq, Nat.reduceLT, Nat.reduceLeDiff, Int.reduceEq, Int.reduceLT, Int.reduceLE, Nat.reduceMul, Int.reduceToNat, Nat.reduceAdd, Int.reduceAdd, Int.reduceSub, Int.reduceMul, Int.reduceNeg, Tryz.ntmps80, rs80, hF, F]))
/-- skymosaic/wire.zigzag -/
theorem rs82 : Tryz.f82.results.toList = [.tmp 2] := rfl
def g82 (n : Nat) (a0 : Int) : Option (Int) := some (bitsA .xor .u64 (IntKind.u64.wrap ((IntKind.u64.wrap a0) * 2)) (IntKind.u64.wrap (Int.fdiv a0 9223372036854775808)))
theorem c82 {B : Nat} {w0 : World} {n : Nat} {a0 : Int} {H : AHeap} {L : List Item} {K : AV → AHeap → Prop} {r : (Int)} (hS : Hv H (L)) (hg : g82 n a0 = some r) (hK : ∀ (H' : AHeap), Hv H' (L) → K (.int .u64 r) H') : ACall Tryz.prog B w0 82 [.int .i64 a0] H K := by
  refine ACall.ret ?_
  unfold g82 at hg
  refine ACall.enter Tryz.func82 (by kernel_rfl) rfl (eawp_sound noY_sound _ _ _ _ ?_)
  have hF := True.intro
  have F := hS.facts
  have h0 := True.intro
  repeat' ((first
    | (clear h0)
    | (with_reducible exact noneE hg)
    | ((with_reducible refine Br.iteB hg (fun h hg => ?_) (fun h hg => ?_)) <;> replace hF := And.intro h hF)
    | ((with_reducible refine Br.iteP hg (fun h hg => ?_) (fun h hg => ?_)) <;> replace hF := And.intro h hF)
    | ((with_reducible refine branchB hg (fun h hg => ?_) (fun h hg => ?_)) <;> replace hF := And.intro h hF)
    | ((with_reducible refine atRet ?_); (with_reducible replace hg := Option.some.inj hg); subst hg; exact (RetK.go (hK ) (by first | exact rR | exact rT | exact rF | exact rN | exact rG (by repeat first | exact kZ | apply kR | apply kF | apply kN | apply kE | apply kI | apply kT | apply kU) | exact rU (by repeat first | exact aZ | apply aR | apply aF | apply aN | apply aT | refine aG (by (repeat first | exact kZ | apply kR | apply kF | apply kN | apply kE | apply kI | apply kT | apply kU)) ?_)) hS (by repeat first | exact nD | (apply nT; (· (repeat first | exact pH | apply pT))) | (apply nW; (· (repeat first | exact pH | apply pT)); (· (repeat first | exact kZ | apply kR | apply kF | apply kN | apply kE | apply kI | apply kT | apply kU))) | apply nF | apply nX)))
    | (simp only [hF, reduceIte] at hg)) <;> ((repeat ((with_reducible first | replace hg := guardN hg | replace hg := guardS3 hg | replace hg := guardS2 hg | replace hg := guardS1 hg | replace hg := gd4 hg | replace hg := gd3 hg | replace hg := gd2 hg | replace hg := gd1 hg); obtain ⟨h, hg⟩ := hg; replace hF := And.intro h hF)); replace F := hS.facts; (try simp only [Facts_obj, Facts_tl, Facts_own] at F); try simp only [EVA, reduceIte, reduceCtorEq, Nat.reduceLT, Nat.reduceLeDiff, Int.reduceEq, Int.reduceLT, Int.reduceLE, Nat.reduceMul, Int.reduceToNat, Nat.reduceAdd, Int.reduceAdd, Int.reduceSub, Int.reduceMul, Int.reduceNeg, Tryz.ntmps82, rs82, hF, F]))
/-- (*skymosaic/wire.Writer).Int -/
theorem rs49 : Tryz.f49.results.toList = [] := rfl
def g49 (n : Nat) (a0 : S5) (a1 : Int) : Option (S5) := (g82 n a1).bind fun v1 => (g80 n (⟨a0.c0⟩ : S5) v1).bind fun v2 => some (⟨v2.c0⟩ : S5)
theorem c49 {B : Nat} {w0 : World} {n : Nat} {a0 : S5} {a1 : Int} {ta0_0 : Tail} {pa0 : Nat} {H : AHeap} {L : List Item} {K : AV → AHeap → Prop} {r : (S5)} (hS : Hv H (.obj pa0 (.cells ([.dl 1 (List.map (AV.int .u8) a0.c0) ta0_0])) :: .tl ta0_0 :: L)) (hg : g49 n a0 a1 = some r) (hK : ∀ (qo0_0 : Tail) (H' : AHeap), Hv H' (.obj pa0 (.cells ([.dl 1 (List.map (AV.int .u8) r.c0) qo0_0])) :: .tl qo0_0 :: L) → K (.tup []) H') : ACall Tryz.prog B w0 49 [.ptr pa0 0, .int .i64 a1] H K := by
  refine ACall.ret ?_
  unfold g49 at hg
  refine ACall.enter Tryz.func49 (by kernel_rfl) rfl (eawp_sound noY_sound _ _ _ _ ?_)
  have hF := True.intro
  have F := hS.facts
  have h0 := True.intro
  repeat' ((first
    | (clear h0)
    | (with_reducible exact noneE hg)
    | ((with_reducible refine Br.iteB hg (fun h hg => ?_) (fun h hg => ?_)) <;> replace hF := And.intro h hF)
    | ((with_reducible refine Br.iteP hg (fun h hg => ?_) (fun h hg => ?_)) <;> replace hF := And.intro h hF)
    | ((with_reducible refine branchB hg (fun h hg => ?_) (fun h hg => ?_)) <;> replace hF := And.intro h hF)
    | ((with_reducible refine atF 82 ?_); (with_reducible replace hg := bind_some hg); obtain ⟨_, hc, hg⟩ := hg; refine ACall.wkN (fun H hS => c82 hS hc ?_) (by repeat first | exact aZ | apply aR | apply aF | apply aN | apply aT | refine aG (by (repeat first | exact kZ | apply kR | apply kF | apply kN | apply kE | apply kI | apply kT | apply kU)) ?_) hS (by repeat first | exact nD | (apply nT; (· (repeat first | exact pH | apply pT))) | (apply nW; (· (repeat first | exact pH | apply pT)); (· (repeat first | exact kZ | apply kR | apply kF | apply kN | apply kE | apply kI | apply kT | apply kU))) | apply nF | apply nX); intro  H hS)
    | ((with_reducible refine atF 80 ?_); (with_reducible refine atCall2 80 7 ?_); (with_reducible replace hg := bind_some hg); obtain ⟨_, hc, hg⟩ := hg; refine ACall.wkN (fun H hS => c80 hS hc ?_) (by repeat first | exact aZ | apply aR | apply aF | apply aN | apply aT | refine aG (by (repeat first | exact kZ | apply kR | apply kF | apply kN | apply kE | apply kI | apply kT | apply kU)) ?_) hS (by repeat first | exact nD | (apply nT; (· (repeat first | exact pH | apply pT))) | (apply nW; (· (repeat first | exact pH | apply pT)); (· (repeat first | exact kZ | apply kR | apply kF | apply kN | apply kE | apply kI | apply kT | apply kU))) | apply nF | apply nX); intro t7_o0_0 H hS)
    | ((with_reducible refine atRet ?_); (with_reducible replace hg := Option.some.inj hg); subst hg; exact (RetK.go (hK _) (by first | exact rR | exact rT | exact rF | exact rN | exact rG (by repeat first | exact kZ | apply kR | apply kF | apply kN | apply kE | apply kI | apply kT | apply kU) | exact rU (by repeat first | exact aZ | apply aR | apply aF | apply aN | apply aT | refine aG (by (repeat first | exact kZ | apply kR | apply kF | apply kN | apply kE | apply kI | apply kT | apply kU)) ?_)) hS (by repeat first | exact nD | (apply nT; (· (repeat first | exact pH | apply pT))) | (apply nW; (· (repeat first | exact pH | apply pT)); (· (repeat first | exact kZ | apply kR | apply kF | apply kN | apply kE | apply kI | apply kT | apply kU))) | apply nF | apply nX)))
    | (simp only [hF, reduceIte] at hg)) <;> ((repeat ((with_reducible first | replace hg := guardN hg | replace hg := guardS3 hg | replace hg := guardS2 hg | replace hg := guardS1 hg | replace hg := gd4 hg | replace hg := gd3 hg | replace hg := gd2 hg | replace hg := gd1 hg); obtain ⟨h, hg⟩ := hg; replace hF := And.intro h hF)); replace F := hS.facts; (try simp only [Facts_obj, Facts_tl, Facts_own] at F); try simp only [EVA, reduceIte, reduceCtorEq, Nat.reduceLT, Nat.reduceLeDiff, Int.reduceEq, Int.reduceLT, Int.reduceLE, Nat.reduceMul, Int.reduceToNat, Nat.reduceAdd, Int.reduceAdd, Int.reduceSub, Int.reduceMul, Int.reduceNeg, Tryz.ntmps49, rs49, hF, F]))
/-- (*skymosaic/wire.Writer).Done -/
theorem rs52 : Tryz.f52.results.toList = [.tmp 2] := rfl
def g52 (n : Nat) (a0 : S5) : Option (List Int) := (g57 n a0.c0).bind fun v1 => some v1
theorem c52 {B : Nat} {w0 : World} {n : Nat} {a0 : S5} {ta0_0 : Tail} {pa0 : Nat} {H : AHeap} {L : List Item} {K : AV → AHeap → Prop} {r : (List Int)} (hS : Hv H (.obj pa0 (.cells ([.dl 1 (List.map (AV.int .u8) a0.c0) ta0_0])) :: L)) (hg : g52 n a0 = some r) (hK : ∀ (q0 : Tail) (H' : AHeap), Hv H' (.obj pa0 (.cells ([.dl 1 (List.map (AV.int .u8) a0.c0) ta0_0])) :: .tl q0 :: L) → K (.dl 1 (List.map (AV.int .u8) r) q0) H') : ACall Tryz.prog B w0 52 [.ptr pa0 0] H K := by
  refine ACall.ret ?_
  unfold g52 at hg
  refine ACall.enter Tryz.func52 (by kernel_rfl) rfl (eawp_sound noY_sound _ _ _ _ ?_)
  have hF := True.intro
  have F := hS.facts
  have h0 := True.intro
  repeat' ((first
    | (clear h0)
    | (with_reducible exact noneE hg)
    | ((with_reducible refine Br.iteB hg (fun h hg => ?_) (fun h hg => ?_)) <;> replace hF := And.intro h hF)
    | ((with_reducible refine Br.iteP hg (fun h hg => ?_) (fun h hg => ?_)) <;> replace hF := And.intro h hF)
    | ((with_reducible refine branchB hg (fun h hg => ?_) (fun h hg => ?_)) <;> replace hF := And.intro h hF)
    | ((with_reducible refine atF 57 ?_); (with_reducible refine atCall2 57 7 ?_); (with_reducible replace hg := bind_some hg); obtain ⟨_, hc, hg⟩ := hg; refine ACall.wkN (fun H hS => c57 hS hc ?_) (by repeat first | exact aZ | apply aR | apply aF | apply aN | apply aT | refine aG (by (repeat first | exact kZ | apply kR | apply kF | apply kN | apply kE | apply kI | apply kT | apply kU)) ?_) hS (by repeat first | exact nD | (apply nT; (· (repeat first | exact pH | apply pT))) | (apply nW; (· (repeat first | exact pH | apply pT)); (· (repeat first | exact kZ | apply kR | apply kF | apply kN | apply kE | apply kI | apply kT | apply kU))) | apply nF | apply nX); intro t7_0 H hS)
    | ((with_reducible refine atRet ?_); (with_reducible replace hg := Option.some.inj hg); subst hg; exact (RetK.go (hK _) (by first | exact rR | exact rT | exact rF | exact rN | exact rG (by repeat first | exact kZ | apply kR | apply kF | apply kN | apply kE | apply kI | apply kT | apply kU) | exact rU (by repeat first | exact aZ | apply aR | apply aF | apply aN | apply aT | refine aG (by (repeat first | exact kZ | apply kR | apply kF | apply kN | apply kE | apply kI | apply kT | apply kU)) ?_)) hS (by repeat first | exact nD | (apply nT; (· (repeat first | exact pH | apply pT))) | (apply nW; (· (repeat first | exact pH | apply pT)); (· (repeat first | exact kZ | apply kR | apply kF | apply kN | apply kE | apply kI | apply kT | apply kU))) | apply nF | apply nX)))
    | (simp only [hF, reduceIte] at hg)) <;> ((repeat ((with_reducible first | replace hg := guardN hg | replace hg := guardS3 hg | replace hg := guardS2 hg | replace hg := guardS1 hg | replace hg := gd4 hg | replace hg := gd3 hg | replace hg := gd2 hg | replace hg := gd1 hg); obtain ⟨h, hg⟩ := hg; replace hF := And.intro h hF)); replace F := hS.facts; (try simp only [Facts_obj, Facts_tl, Facts_own] at F); try simp only [EVA, reduceIte, reduceCtorEq, Nat.reduceLT, Nat.reduceLeDiff, Int.reduceEq, Int.reduceLT, Int.reduceLE, Nat.reduceMul, Int.reduceToNat, Nat.reduceAdd, Int.reduceAdd, Int.reduceSub, Int.reduceMul, Int.reduceNeg, Tryz.ntmps52, rs52, hF, F]))
end Go.Av
end
