/- the walks, part 1 -/
import Derived.Test.YtcgndadlcgnilaaGreatA28
set_option autoImplicit false
set_option linter.unusedSimpArgs false
set_option linter.unusedVariables false
set_option linter.unnecessarySimpa false
section
set_option maxHeartbeats 1000000
set_option maxRecDepth 10000
namespace Go.Av
open Go.Proofs
/-- slices.Clone[[]byte,byte] -/
theorem rs57 : Tryz.f57.results.toList = [.tmp 2] := rfl
def g57 (n : Nat) (a0 : List Int) : Option (List Int) := if a0.length ≤ 140737488355328 then some a0 else none
theorem c57 (B : Nat) (w0 : World) (n : Nat) (a0 : List Int) (ta0 : Tail) (H : AHeap) (K : AV → AHeap → Prop) (r : List Int) (hg : g57 n a0 = some r) (hK : ∀ (q0 : Tail) (H' : AHeap), Ext H H' → Free H H' q0 → K (.dl 1 (List.map (AV.int .u8) r) q0) H') : ACall Tryz.prog B w0 57 [.dl 1 (List.map (AV.int .u8) a0) ta0] H K := by
 refine ACall.wkR ?_
 unfold g57 at hg
 obtain ⟨hl, hg⟩ := guard_some hg
 obtain rfl := Option.some.inj hg
 refine ACall.enter Tryz.func57 (by kernel_rfl) rfl (eawp_sound noY_sound _ _ _ _ ?_)
 simp only [EVA, reduceIte, reduceCtorEq, Nat.reduceLT, Nat.reduceLeDiff, Int.reduceEq, Int.reduceLT, Int.reduceLE, Nat.reduceMul, Tryz.ntmps57, rs57]
 refine Br.mk' (fun h => ⟨?_, ?_⟩) (fun h => ?_)
 ·simp only [EVA, reduceIte, reduceCtorEq, Nat.reduceLT, Nat.reduceLeDiff, Int.reduceEq, Int.reduceLT, Int.reduceLE, Nat.reduceMul, rs57, lateK_eq]
  have h0 : a0 = [] := List.map_eq_nil_iff.1 h
  subst h0
  exact ⟨_, (wkR.a (wkA.v (wkV.nilf _ _))), hK .full H (Ext.refl H) (Free.full _ _)⟩
 ·simp only [EVA, reduceIte, reduceCtorEq, Nat.reduceLT, Nat.reduceLeDiff, Int.reduceEq, Int.reduceLT, Int.reduceLE, Nat.reduceMul, rs57, lateK_eq]
  refine AppE.goM (H0 := H) (AV.int .u8) [] a0 (n := 140737488355328) ty67 rfl ty5 rfl rfl (by decide) (.dl 1 (List.map (AV.int .u8) a0) ta0) (wkD.refl _) (srcA_dl ty67 rfl) (.inl rfl) (by simpa using hl) (by decide) (by decide) (Ext.refl H) (Free.full _ _) ?_
  intro tl H2 hE F p q l
  simp only [EVA, reduceIte, reduceCtorEq, Nat.reduceLT, Nat.reduceLeDiff, Int.reduceEq, Int.reduceLT, Int.reduceLE, Nat.reduceMul, rs57]
  exact ⟨_, (wkR.a (wkA.refl _)), hK tl H2 hE F⟩
 ·simp only [EVA, reduceIte, reduceCtorEq, Nat.reduceLT, Nat.reduceLeDiff, Int.reduceEq, Int.reduceLT, Int.reduceLE, Nat.reduceMul, rs57, lateK_eq]
  refine AppE.goM (H0 := H) (AV.int .u8) [] a0 (n := 140737488355328) ty67 rfl ty5 rfl rfl (by decide) (.dl 1 (List.map (AV.int .u8) a0) ta0) (wkD.refl _) (srcA_dl ty67 rfl) (.inl rfl) (by simpa using hl) (by decide) (by decide) (Ext.refl H) (Free.full _ _) ?_
  intro tl H2 hE F p q l
  simp only [EVA, reduceIte, reduceCtorEq, Nat.reduceLT, Nat.reduceLeDiff, Int.reduceEq, Int.reduceLT, Int.reduceLE, Nat.reduceMul, rs57]
  exact ⟨_, (wkR.a (wkA.refl _)), hK tl H2 hE F⟩
theorem c57m (B : Nat) (w0 : World) (n : Nat) (a0 : List Int) (ta0 : Tail) (H0 H : AHeap) (K : AV → AHeap → Prop) (hl : a0.length ≤ 140737488355328) (hE : Ext H0 H) (hK0 : a0 = [] → K (.dl 0 [] .full) H)
  (hK1 : a0 ≠ [] → ∀ (id : Nat) (H' : AHeap), Ext H0 H' → Ext H H' → H0.length ≤ id → H'[id]? = some (.cells (List.map (AV.int .u8) a0)) → (∀ (i : Nat) (o : AObj), H[i]? = some o → i ≠ id) → K (.sl 1 id 0 a0.length) H') : ACall Tryz.prog B w0 57 [.dl 1 (List.map (AV.int .u8) a0) ta0] H K := by
 by_cases h0 : a0 = []
 ·subst h0
  refine ACall.wkR ?_
  refine ACall.enter Tryz.func57 (by kernel_rfl) rfl (eawp_sound noY_sound _ _ _ _ ?_)
  simp only [EVA, reduceIte, reduceCtorEq, Nat.reduceLT, Nat.reduceLeDiff, Int.reduceEq, Int.reduceLT, Int.reduceLE, Nat.reduceMul, Tryz.ntmps57, rs57]
  refine Br.mk' (fun h => ⟨?_, ?_⟩) (fun h => absurd (by first | trivial | rfl) h)
  ·simp only [EVA, reduceIte, reduceCtorEq, Nat.reduceLT, Nat.reduceLeDiff, Int.reduceEq, Int.reduceLT, Int.reduceLE, Nat.reduceMul, rs57, lateK_eq]
   exact ⟨_, wkR.a (wkA.refl _), hK0 rfl⟩
  ·simp only [EVA, reduceIte, reduceCtorEq, Nat.reduceLT, Nat.reduceLeDiff, Int.reduceEq, Int.reduceLT, Int.reduceLE, Nat.reduceMul, rs57, lateK_eq]
   refine ⟨_, wkD.refl _, .inl ⟨_, _, _, _, [], _, [], .full, ty67, rfl, ty5, rfl, rfl, by decide, srcA_dl ty67 rfl, rfl, .inl rfl, fun _ => ?_, fun h => absurd rfl h⟩⟩
   simp only [EVA, reduceIte, reduceCtorEq, Nat.reduceLT, Nat.reduceLeDiff, Int.reduceEq, Int.reduceLT, Int.reduceLE, Nat.reduceMul, rs57]
   exact ⟨_, wkR.a (wkA.v (wkV.nilf _ _)), hK0 rfl⟩
 ·refine ACall.enter Tryz.func57 (by kernel_rfl) rfl (eawp_sound noY_sound _ _ _ _ ?_)
  simp only [EVA, reduceIte, reduceCtorEq, Nat.reduceLT, Nat.reduceLeDiff, Int.reduceEq, Int.reduceLT, Int.reduceLE, Nat.reduceMul, Tryz.ntmps57, rs57]
  have h1 : List.map (AV.int .u8) a0 ≠ [] := fun h => h0 (List.map_eq_nil_iff.1 h)
  refine Br.neg h1 ?_
  simp only [EVA, reduceIte, reduceCtorEq, Nat.reduceLT, Nat.reduceLeDiff, Int.reduceEq, Int.reduceLT, Int.reduceLE, Nat.reduceMul, rs57, lateK_eq]
  refine AppE.mut ty67 rfl ty5 rfl rfl (by decide) (srcA_dl ty67 rfl) h1 (by rw [List.length_map]; exact Nat.le_trans (Nat.mul_le_mul_right _ hl) (by decide)) (by rw [List.length_map]; exact Nat.le_trans hl (by decide)) ?_
  rw [flat_one (AV.int .u8) (fun _ => rfl)]
  simp only [EVA, reduceIte, reduceCtorEq, Nat.reduceLT, Nat.reduceLeDiff, Int.reduceEq, Int.reduceLT, Int.reduceLE, Nat.reduceMul, rs57]
  exact hK1 h0 H.length _ (hE.push _) ((Ext.refl H).push _) hE.1 (get_new _ _) (fun i o h e => by have := (List.getElem?_eq_some_iff.1 h).1; omega)
/-- slices.Clone[[]uint64,uint64] -/
theorem rs62 : Tryz.f62.results.toList = [.tmp 2] := rfl
def g62 (n : Nat) (a0 : List Int) : Option (List Int) := if a0.length ≤ 17592186044416 then some a0 else none
theorem c62 (B : Nat) (w0 : World) (n : Nat) (a0 : List Int) (ta0 : Tail) (H : AHeap) (K : AV → AHeap → Prop) (r : List Int) (hg : g62 n a0 = some r) (hK : ∀ (q0 : Tail) (H' : AHeap), Ext H H' → Free H H' q0 → K (.dl 1 (List.map (AV.int .u64) r) q0) H') : ACall Tryz.prog B w0 62 [.dl 1 (List.map (AV.int .u64) a0) ta0] H K := by
 refine ACall.wkR ?_
 unfold g62 at hg
 obtain ⟨hl, hg⟩ := guard_some hg
 obtain rfl := Option.some.inj hg
 refine ACall.enter Tryz.func62 (by kernel_rfl) rfl (eawp_sound noY_sound _ _ _ _ ?_)
 simp only [EVA, reduceIte, reduceCtorEq, Nat.reduceLT, Nat.reduceLeDiff, Int.reduceEq, Int.reduceLT, Int.reduceLE, Nat.reduceMul, Tryz.ntmps62, rs62]
 refine Br.mk' (fun h => ⟨?_, ?_⟩) (fun h => ?_)
 ·simp only [EVA, reduceIte, reduceCtorEq, Nat.reduceLT, Nat.reduceLeDiff, Int.reduceEq, Int.reduceLT, Int.reduceLE, Nat.reduceMul, rs62, lateK_eq]
  have h0 : a0 = [] := List.map_eq_nil_iff.1 h
  subst h0
  exact ⟨_, (wkR.a (wkA.v (wkV.nilf _ _))), hK .full H (Ext.refl H) (Free.full _ _)⟩
 ·simp only [EVA, reduceIte, reduceCtorEq, Nat.reduceLT, Nat.reduceLeDiff, Int.reduceEq, Int.reduceLT, Int.reduceLE, Nat.reduceMul, rs62, lateK_eq]
  refine AppE.goM (H0 := H) (AV.int .u64) [] a0 (n := 17592186044416) ty27 rfl ty53 rfl rfl (by decide) (.dl 1 (List.map (AV.int .u64) a0) ta0) (wkD.refl _) (srcA_dl ty27 rfl) (.inl rfl) (by simpa using hl) (by decide) (by decide) (Ext.refl H) (Free.full _ _) ?_
  intro tl H2 hE F p q l
  simp only [EVA, reduceIte, reduceCtorEq, Nat.reduceLT, Nat.reduceLeDiff, Int.reduceEq, Int.reduceLT, Int.reduceLE, Nat.reduceMul, rs62]
  exact ⟨_, (wkR.a (wkA.refl _)), hK tl H2 hE F⟩
 ·simp only [EVA, reduceIte, reduceCtorEq, Nat.reduceLT, Nat.reduceLeDiff, Int.reduceEq, Int.reduceLT, Int.reduceLE, Nat.reduceMul, rs62, lateK_eq]
  refine AppE.goM (H0 := H) (AV.int .u64) [] a0 (n := 17592186044416) ty27 rfl ty53 rfl rfl (by decide) (.dl 1 (List.map (AV.int .u64) a0) ta0) (wkD.refl _) (srcA_dl ty27 rfl) (.inl rfl) (by simpa using hl) (by decide) (by decide) (Ext.refl H) (Free.full _ _) ?_
  intro tl H2 hE F p q l
  simp only [EVA, reduceIte, reduceCtorEq, Nat.reduceLT, Nat.reduceLeDiff, Int.reduceEq, Int.reduceLT, Int.reduceLE, Nat.reduceMul, rs62]
  exact ⟨_, (wkR.a (wkA.refl _)), hK tl H2 hE F⟩
theorem c62m (B : Nat) (w0 : World) (n : Nat) (a0 : List Int) (ta0 : Tail) (H0 H : AHeap) (K : AV → AHeap → Prop) (hl : a0.length ≤ 17592186044416) (hE : Ext H0 H) (hK0 : a0 = [] → K (.dl 0 [] .full) H)
  (hK1 : a0 ≠ [] → ∀ (id : Nat) (H' : AHeap), Ext H0 H' → Ext H H' → H0.length ≤ id → H'[id]? = some (.cells (List.map (AV.int .u64) a0)) → (∀ (i : Nat) (o : AObj), H[i]? = some o → i ≠ id) → K (.sl 1 id 0 a0.length) H') : ACall Tryz.prog B w0 62 [.dl 1 (List.map (AV.int .u64) a0) ta0] H K := by
 by_cases h0 : a0 = []
 ·subst h0
  refine ACall.wkR ?_
  refine ACall.enter Tryz.func62 (by kernel_rfl) rfl (eawp_sound noY_sound _ _ _ _ ?_)
  simp only [EVA, reduceIte, reduceCtorEq, Nat.reduceLT, Nat.reduceLeDiff, Int.reduceEq, Int.reduceLT, Int.reduceLE, Nat.reduceMul, Tryz.ntmps62, rs62]
  refine Br.mk' (fun h => ⟨?_, ?_⟩) (fun h => absurd (by first | trivial | rfl) h)
  ·simp only [EVA, reduceIte, reduceCtorEq, Nat.reduceLT, Nat.reduceLeDiff, Int.reduceEq, Int.reduceLT, Int.reduceLE, Nat.reduceMul, rs62, lateK_eq]
   exact ⟨_, wkR.a (wkA.refl _), hK0 rfl⟩
  ·simp only [EVA, reduceIte, reduceCtorEq, Nat.reduceLT, Nat.reduceLeDiff, Int.reduceEq, Int.reduceLT, Int.reduceLE, Nat.reduceMul, rs62, lateK_eq]
   refine ⟨_, wkD.refl _, .inl ⟨_, _, _, _, [], _, [], .full, ty27, rfl, ty53, rfl, rfl, by decide, srcA_dl ty27 rfl, rfl, .inl rfl, fun _ => ?_, fun h => absurd rfl h⟩⟩
   simp only [EVA, reduceIte, reduceCtorEq, Nat.reduceLT, Nat.reduceLeDiff, Int.reduceEq, Int.reduceLT, Int.reduceLE, Nat.reduceMul, rs62]
   exact ⟨_, wkR.a (wkA.v (wkV.nilf _ _)), hK0 rfl⟩
 ·refine ACall.enter Tryz.func62 (by kernel_rfl) rfl (eawp_sound noY_sound _ _ _ _ ?_)
  simp only [EVA, reduceIte, reduceCtorEq, Nat.reduceLT, Nat.reduceLeDiff, Int.reduceEq, Int.reduceLT, Int.reduceLE, Nat.reduceMul, Tryz.ntmps62, rs62]
  have h1 : List.map (AV.int .u64) a0 ≠ [] := fun h => h0 (List.map_eq_nil_iff.1 h)
  refine Br.neg h1 ?_
  simp only [EVA, reduceIte, reduceCtorEq, Nat.reduceLT, Nat.reduceLeDiff, Int.reduceEq, Int.reduceLT, Int.reduceLE, Nat.reduceMul, rs62, lateK_eq]
  refine AppE.mut ty27 rfl ty53 rfl rfl (by decide) (srcA_dl ty27 rfl) h1 (by rw [List.length_map]; exact Nat.le_trans (Nat.mul_le_mul_right _ hl) (by decide)) (by rw [List.length_map]; exact Nat.le_trans hl (by decide)) ?_
  rw [flat_one (AV.int .u64) (fun _ => rfl)]
  simp only [EVA, reduceIte, reduceCtorEq, Nat.reduceLT, Nat.reduceLeDiff, Int.reduceEq, Int.reduceLT, Int.reduceLE, Nat.reduceMul, rs62]
  exact hK1 h0 H.length _ (hE.push _) ((Ext.refl H).push _) hE.1 (get_new _ _) (fun i o h e => by have := (List.getElem?_eq_some_iff.1 h).1; omega)
/-- slices.Clone[[]int,int] -/
theorem rs90 : Tryz.f90.results.toList = [.tmp 2] := rfl
def g90 (n : Nat) (a0 : List Int) : Option (List Int) := if a0.length ≤ 17592186044416 then some a0 else none
theorem c90 (B : Nat) (w0 : World) (n : Nat) (a0 : List Int) (ta0 : Tail) (H : AHeap) (K : AV → AHeap → Prop) (r : List Int) (hg : g90 n a0 = some r) (hK : ∀ (q0 : Tail) (H' : AHeap), Ext H H' → Free H H' q0 → K (.dl 1 (List.map (AV.int .i64) r) q0) H') : ACall Tryz.prog B w0 90 [.dl 1 (List.map (AV.int .i64) a0) ta0] H K := by
 refine ACall.wkR ?_
 unfold g90 at hg
 obtain ⟨hl, hg⟩ := guard_some hg
 obtain rfl := Option.some.inj hg
 refine ACall.enter Tryz.func90 (by kernel_rfl) rfl (eawp_sound noY_sound _ _ _ _ ?_)
 simp only [EVA, reduceIte, reduceCtorEq, Nat.reduceLT, Nat.reduceLeDiff, Int.reduceEq, Int.reduceLT, Int.reduceLE, Nat.reduceMul, Tryz.ntmps90, rs90]
 refine Br.mk' (fun h => ⟨?_, ?_⟩) (fun h => ?_)
 ·simp only [EVA, reduceIte, reduceCtorEq, Nat.reduceLT, Nat.reduceLeDiff, Int.reduceEq, Int.reduceLT, Int.reduceLE, Nat.reduceMul, rs90, lateK_eq]
  have h0 : a0 = [] := List.map_eq_nil_iff.1 h
  subst h0
  exact ⟨_, (wkR.a (wkA.v (wkV.nilf _ _))), hK .full H (Ext.refl H) (Free.full _ _)⟩
 ·simp only [EVA, reduceIte, reduceCtorEq, Nat.reduceLT, Nat.reduceLeDiff, Int.reduceEq, Int.reduceLT, Int.reduceLE, Nat.reduceMul, rs90, lateK_eq]
  refine AppE.goM (H0 := H) (AV.int .i64) [] a0 (n := 17592186044416) ty22 rfl ty3 rfl rfl (by decide) (.dl 1 (List.map (AV.int .i64) a0) ta0) (wkD.refl _) (srcA_dl ty22 rfl) (.inl rfl) (by simpa using hl) (by decide) (by decide) (Ext.refl H) (Free.full _ _) ?_
  intro tl H2 hE F p q l
  simp only [EVA, reduceIte, reduceCtorEq, Nat.reduceLT, Nat.reduceLeDiff, Int.reduceEq, Int.reduceLT, Int.reduceLE, Nat.reduceMul, rs90]
  exact ⟨_, (wkR.a (wkA.refl _)), hK tl H2 hE F⟩
 ·simp only [EVA, reduceIte, reduceCtorEq, Nat.reduceLT, Nat.reduceLeDiff, Int.reduceEq, Int.reduceLT, Int.reduceLE, Nat.reduceMul, rs90, lateK_eq]
  refine AppE.goM (H0 := H) (AV.int .i64) [] a0 (n := 17592186044416) ty22 rfl ty3 rfl rfl (by decide) (.dl 1 (List.map (AV.int .i64) a0) ta0) (wkD.refl _) (srcA_dl ty22 rfl) (.inl rfl) (by simpa using hl) (by decide) (by decide) (Ext.refl H) (Free.full _ _) ?_
  intro tl H2 hE F p q l
  simp only [EVA, reduceIte, reduceCtorEq, Nat.reduceLT, Nat.reduceLeDiff, Int.reduceEq, Int.reduceLT, Int.reduceLE, Nat.reduceMul, rs90]
  exact ⟨_, (wkR.a (wkA.refl _)), hK tl H2 hE F⟩
theorem c90m (B : Nat) (w0 : World) (n : Nat) (a0 : List Int) (ta0 : Tail) (H0 H : AHeap) (K : AV → AHeap → Prop) (hl : a0.length ≤ 17592186044416) (hE : Ext H0 H) (hK0 : a0 = [] → K (.dl 0 [] .full) H)
  (hK1 : a0 ≠ [] → ∀ (id : Nat) (H' : AHeap), Ext H0 H' → Ext H H' → H0.length ≤ id → H'[id]? = some (.cells (List.map (AV.int .i64) a0)) → (∀ (i : Nat) (o : AObj), H[i]? = some o → i ≠ id) → K (.sl 1 id 0 a0.length) H') : ACall Tryz.prog B w0 90 [.dl 1 (List.map (AV.int .i64) a0) ta0] H K := by
 by_cases h0 : a0 = []
 ·subst h0
  refine ACall.wkR ?_
  refine ACall.enter Tryz.func90 (by kernel_rfl) rfl (eawp_sound noY_sound _ _ _ _ ?_)
  simp only [EVA, reduceIte, reduceCtorEq, Nat.reduceLT, Nat.reduceLeDiff, Int.reduceEq, Int.reduceLT, Int.reduceLE, Nat.reduceMul, Tryz.ntmps90, rs90]
  refine Br.mk' (fun h => ⟨?_, ?_⟩) (fun h => absurd (by first | trivial | rfl) h)
  ·simp only [EVA, reduceIte, reduceCtorEq, Nat.reduceLT, Nat.reduceLeDiff, Int.reduceEq, Int.reduceLT, Int.reduceLE, Nat.reduceMul, rs90, lateK_eq]
   exact ⟨_, wkR.a (wkA.refl _), hK0 rfl⟩
  ·simp only [EVA, reduceIte, reduceCtorEq, Nat.reduceLT, Nat.reduceLeDiff, Int.reduceEq, Int.reduceLT, Int.reduceLE, Nat.reduceMul, rs90, lateK_eq]
   refine ⟨_, wkD.refl _, .inl ⟨_, _, _, _, [], _, [], .full, ty22, rfl, ty3, rfl, rfl, by decide, srcA_dl ty22 rfl, rfl, .inl rfl, fun _ => ?_, fun h => absurd rfl h⟩⟩
   simp only [EVA, reduceIte, reduceCtorEq, Nat.reduceLT, Nat.reduceLeDiff, Int.reduceEq, Int.reduceLT, Int.reduceLE, Nat.reduceMul, rs90]
   exact ⟨_, wkR.a (wkA.v (wkV.nilf _ _)), hK0 rfl⟩
 ·refine ACall.enter Tryz.func90 (by kernel_rfl) rfl (eawp_sound noY_sound _ _ _ _ ?_)
  simp only [EVA, reduceIte, reduceCtorEq, Nat.reduceLT, Nat.reduceLeDiff, Int.reduceEq, Int.reduceLT, Int.reduceLE, Nat.reduceMul, Tryz.ntmps90, rs90]
  have h1 : List.map (AV.int .i64) a0 ≠ [] := fun h => h0 (List.map_eq_nil_iff.1 h)
  refine Br.neg h1 ?_
  simp only [EVA, reduceIte, reduceCtorEq, Nat.reduceLT, Nat.reduceLeDiff, Int.reduceEq, Int.reduceLT, Int.reduceLE, Nat.reduceMul, rs90, lateK_eq]
  refine AppE.mut ty22 rfl ty3 rfl rfl (by decide) (srcA_dl ty22 rfl) h1 (by rw [List.length_map]; exact Nat.le_trans (Nat.mul_le_mul_right _ hl) (by decide)) (by rw [List.length_map]; exact Nat.le_trans hl (by decide)) ?_
  rw [flat_one (AV.int .i64) (fun _ => rfl)]
  simp only [EVA, reduceIte, reduceCtorEq, Nat.reduceLT, Nat.reduceLeDiff, Int.reduceEq, Int.reduceLT, Int.reduceLE, Nat.reduceMul, rs90]
  exact hK1 h0 H.length _ (hE.push _) ((Ext.refl H).push _) hE.1 (get_new _ _) (fun i o h e => by have := (List.getElem?_eq_some_iff.1 h).1; omega)
/-- slices.Grow[[]skymosaic/proof.Proof,skymosaic/proof.Proof] -/
theorem rs93 : Tryz.f93.results.toList = [.tmp 4] := rfl
def g93 (n : Nat) (a1 : Int) : Option (List S1) := if 0 ≤ a1 ∧ a1 ≤ 1599289640401 then some [] else none
theorem c93 (B : Nat) (w0 : World) (n : Nat) (a1 : Int) (H : AHeap) (K : AV → AHeap → Prop) (r : List S1) (hg : g93 n a1 = some r) (hK : ∀ (q0 : Tail) (H' : AHeap), Ext H H' → Free H H' q0 → K (.dl 7 (List.map encS1 r) q0) H') : ACall Tryz.prog B w0 93 [.dl 0 [] .full, .int .i64 a1] H K := by
 refine ACall.rel ?_
 unfold g93 at hg
 obtain ⟨hn, hg⟩ := guard_some hg
 obtain rfl := Option.some.inj hg
 have hw : IntKind.i64.wrap a1 = a1 := by rw [wrap_i64] <;> omega
 refine ACall.enter Tryz.func93 (by kernel_rfl) rfl (eawp_sound noY_sound _ _ _ _ ?_)
 simp only [EVA, reduceIte, reduceCtorEq, Nat.reduceLT, Nat.reduceLeDiff, Int.reduceEq, Int.reduceLT, Int.reduceLE, Nat.reduceMul, Int.reduceToNat, Nat.reduceAdd, Tryz.ntmps93, rs93]
 refine Br.no (by omega) ?_
 simp only [EVA, reduceIte, reduceCtorEq, Nat.reduceLT, Nat.reduceLeDiff, Int.reduceEq, Int.reduceLT, Int.reduceLE, Nat.reduceMul, Int.reduceToNat, Nat.reduceAdd, rs93, (show IntKind.i64.wrap 0 = 0 from rfl), Int.sub_zero, hw]
 refine Br.go (fun h => ?_) (fun h => ?_)
 ·simp only [EVA, reduceIte, reduceCtorEq, Nat.reduceLT, Nat.reduceLeDiff, Int.reduceEq, Int.reduceLT, Int.reduceLE, Nat.reduceMul, Int.reduceToNat, Nat.reduceAdd, rs93, cutTail]
  refine AppE.zeros ty63 rfl ty64 rfl rfl rfl (by decide) ty3 rfl h (by show a1.toNat * 88 ≤ 140737488355328; omega) (by omega) ?_
  simp only [EVA, reduceIte, reduceCtorEq, Nat.reduceLT, Nat.reduceLeDiff, Int.reduceEq, Int.reduceLT, Int.reduceLE, Nat.reduceMul, Int.reduceToNat, Nat.reduceAdd, rs93]
  refine .inr ⟨_, _, _, rfl, get_new _ _, ?_⟩
  rw [set_new]
  exact hK _ _ ((Ext.refl H).push _) (.inr ⟨H.length, rfl, Nat.le_refl _, get_new _ _⟩)
 ·simp only [EVA, reduceIte, reduceCtorEq, Nat.reduceLT, Nat.reduceLeDiff, Int.reduceEq, Int.reduceLT, Int.reduceLE, Nat.reduceMul, Int.reduceToNat, Nat.reduceAdd, rs93]
  exact .inl ⟨_, wkR.a (wkA.v (wkV.nilf _ _)), hK _ _ (Ext.refl H) (.inl rfl)⟩
/-- skymosaic/skymosaicref01.Around -/
theorem rs7 : Tryz.f7.results.toList = [.tmp 4] := rfl
def g7 (n : Nat) (a0 : Int) (a1 : Int) : Option (Int) := if a0 < 0 then (if ¬ a1 = 0 then (some (Int.tmod (IntKind.i64.wrap (0 - (IntKind.i64.wrap (a0 + 1)))) a1)) else none) else (if ¬ a1 = 0 then (some (Int.tmod a0 a1)) else none)
theorem c7 (B : Nat) (w0 : World) (n : Nat) (a0 : Int) (a1 : Int) (H : AHeap) (K : AV → AHeap → Prop) (r : (Int)) (hg : g7 n a0 a1 = some r)  (hK : K (.int .i64 r) H) : ACall Tryz.prog B w0 7 [.int .i64 a0, .int .i64 a1] H K := by
 unfold g7 at hg
 refine ACall.enter Tryz.func7 (by kernel_rfl) rfl (eawp_sound noY_sound _ _ _ _ ?_)
 have hE : Ext H H := Ext.refl H
 simp only [EVA, reduceIte, reduceCtorEq, Tryz.ntmps7, rs7]
 rcases ite_some hg with ⟨h1, hg⟩ | ⟨h1, hg⟩
 ·refine Br.yes h1 ?_
  obtain ⟨h2, hg⟩ := guard_some hg
  simp only [EVA, reduceIte, reduceCtorEq, rs7, eq_true h1, eq_false h2]
  obtain rfl := Option.some.inj hg
  exact hK
 ·refine Br.no h1 ?_
  obtain ⟨h3, hg⟩ := guard_some hg
  simp only [EVA, reduceIte, reduceCtorEq, rs7, eq_false h1, eq_false h3]
  obtain rfl := Option.some.inj hg
  exact hK
end Go.Av
end
