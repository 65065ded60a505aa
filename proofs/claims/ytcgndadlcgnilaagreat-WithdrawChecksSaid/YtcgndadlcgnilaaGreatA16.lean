/- the layer over the model, part 16 -/
import Derived.Test.YtcgndadlcgnilaaGreatA15
set_option autoImplicit false
set_option linter.unusedSimpArgs false
set_option linter.unusedVariables false
set_option linter.unnecessarySimpa false
section
set_option linter.unusedSimpArgs false
set_option linter.unusedVariables false
namespace Go.Av
open Go.RowKit

/-- A function's result. -/
def resOne (P : Program) (H : AHeap) (a : List AV) : ResultVar → Option AV
 | .tmp t => some (a.getD t .undef)
 | .cell p t => (cellsAt H (a.getD p .undef)).bind (loadA P t)

def resA (P : Program) (H : AHeap) (a : List AV) (l : List ResultVar) : Option AV :=
 match l with
 | [r] => resOne P H a r
 | l => (l.mapM (resOne P H a)).map .tup

def resSem (tmps : Array Value) (r : ResultVar) : Sem Value :=
 match r with
 | .tmp t => pure (tmps.getD t undef)
 | .cell p t => do loadVar t (← asAddr (tmps.getD p undef))
theorem results_eq (fn : Func) (tmps : Array Value) : results fn tmps = (do let vs ← fn.results.mapM (resSem tmps); pure (if h : vs.size = 1 then vs[0] else .tuple vs)) := rfl

/-- What a function's body must come to. -/
def bodyQ (P : Program) (fn : Func) (K : AV → AHeap → Prop) : Exit → List AV → AHeap → Prop
 | .normal, a, H => ∃ v, resA P H a fn.results.toList = some v ∧ K v H
 | .ret, a, H => ∃ v, resA P H a fn.results.toList = some v ∧ K v H
 | _, _, _ => False

section
variable {P : Program} {B : Nat} {w0 : World} {rd : Option Nat} {a : List AV} {H : AHeap} {μ μ' : Nat → Nat × Nat} {Z Z' : Nat → Nat → Prop} {w w' : World} {n n' : Nat} {E0 : Nat} {ca : Act}
variable {x y i v : AV} {cx cy ci cv : Value} {t t2 ty e : TypeId} {Y : Hand} {Q : Exit → List AV → AHeap → Prop}

theorem lands_wp {o : Oper} {K : AV → AHeap → Prop} {K' : Act → World → Prop} {Q' : Exit → Act → World → Prop} (hd : ∀ c, o.op ≠ .defer c) (h : Lands P B w0 μ Z H w K (FW rd) ((execOp ca.eval o).run P w))
  (hK : ∀ v cv μ' Z' H' w', R B w0 μ' Z' H' w' → VR μ' Z' w' H'.length v cv → Ev μ Z H w μ' Z' H' w' → K v H' → K' (ca.put o.dst cv) w') : o.wpIn (FW rd) 0 P ca w K' Q' := by
 refine ⟨fun _ _ => trivial, ?_⟩
 have hsem : o.semAt (FW rd).round ca.eval = execOp ca.eval o := by
  unfold Oper.semAt
  split
  ·rename_i l c _ ho; exact absurd ho (hd c)
  ·rfl
 rw [hsem]
 rcases h with ⟨v, cv, μ', Z', H', w', hr, h1, h2, h3, h4⟩ | ⟨k, args, hr, hc⟩ | ⟨l, fn, tmps, assign, body, hr, hc⟩
 ·rcases hr with hr | ⟨hr, rfl⟩
  ·rw [hr]; exact hK v cv μ' Z' H' w' h1 h2 h3 h4
  ·rw [hr]; exact hK v undef μ' Z' H' w' h1 h2 h3 h4
 ·rw [hr]
  refine ⟨fun h => (by cases h), hc.mono ?_⟩
  rintro e w' ⟨v, cv, μ', Z', H', rfl, h1, h2, h3, h4⟩
  exact hK v cv μ' Z' H' w' h1 h2 h3 h4
 ·rw [hr]
  refine ⟨fun h => (by cases h), hc.mono ?_⟩
  rintro e w' ⟨v, cv, μ', Z', H', rfl, h1, h2, h3, h4⟩
  exact hK v cv μ' Z' H' w' h1 h2 h3 h4

theorem aop_noDefer {o : Op} {K : AV → AHeap → Prop} (h : AOp P B w0 Y a H o K) : ∀ c, o ≠ .defer c := by
 rintro c rfl
 unfold AOp at h
 simp only [pureA] at h
 exact h.elim

theorem aop_lands {o : Oper} {K : AV → AHeap → Prop} (rd : Option Nat) (hY : YSound P B w0 Y) (h : AOp P B w0 Y a H o.op K) (hR : R B w0 μ Z H w) (he : ∀ x, VR μ Z w H.length (ev a x) (ca.eval x)) :
  Lands P B w0 μ Z H w K (FW rd) ((execOp ca.eval o).run P w) := by
 unfold AOp at h
 split at h
 ·rename_i v hv
  obtain ⟨cv, h1, h2⟩ := pure_run hv hR he
  exact .inl ⟨v, cv, μ, Z, H, w, .inl h1, hR, h2, Ev.refl μ Z H w, h⟩
 ·exact eff_sound rd hY h hR he

theorem wanted_of {ops : Array Oper} {g : Option (Nat × Bool)} {o : Oper} {b : Bool} (hg : o.guard = g) (h : wantA ops.toList a g = some b) (hA : VRs μ Z w n a ca.tmps) : Region.wanted o (yielded ops ca.tmps) = b := by
 unfold Region.wanted
 rw [hg]
 unfold wantA at h
 split at h
 ·simpa using h
 ·rename_i j want
  split at h
  ·rename_i d hd
   split at h
   ·rename_i b' hb
    cases h
    have hv : VR μ Z w n (.bool b') (ca.tmps.getD d undef) := by
     rw [← hb]
     simp only [List.getD]
     cases hd2 : a[d]? with
     | none => exact .undef _
     | some v =>
      obtain ⟨u, k1, k2⟩ := hA.2 d v hd2
      rw [Array.getD_eq_getD_getElem?, k1]
      exact k2
    have hdl : ∃ u, ca.tmps[d]? = some u ∧ u = .bool b' := by
     have hlt : d < a.length := by
      rcases Nat.lt_or_ge d a.length with h | h
      ·exact h
      ·simp [List.getD, List.getElem?_eq_none h] at hb
     have hlt2 : d < ca.tmps.size := by rw [← hA.1]; exact hlt
     refine ⟨ca.tmps[d], Array.getElem?_eq_getElem hlt2, ?_⟩
     rw [Array.getD_eq_getD_getElem?, Array.getElem?_eq_getElem hlt2] at hv
     simp only [Option.getD_some] at hv
     generalize ca.tmps[d] = z at hv
     cases hv; rfl
    obtain ⟨u, hu1, hu2⟩ := hdl
    have hd' : (ops[j]?).bind (·.dst) = some d := by simpa using hd
    simp only [yielded, hd', Option.bind_some, hu1, hu2]
    cases b' <;> cases want <;> rfl
   ·cases h
  ·cases h

theorem aops_sound {ops : Array Oper} (hY : YSound P B w0 Y) {K : List AV → AHeap → Prop} {K' : Exit → Act → World → Prop} (rd : Option Nat) : ∀ (l : List Oper) (a : List AV) (H : AHeap) (μ : Nat → Nat × Nat) (Z : Nat → Nat → Prop) (w : World) (ca : Act),
  AOps P B w0 Y ops.toList l K a H → R B w0 μ Z H w → AR E0 μ Z w H.length a ca →
  (∀ a' ca' μ' Z' H' w', R B w0 μ' Z' H' w' → AR E0 μ' Z' w' H'.length a' ca' → Ev μ Z H w μ' Z' H' w' → K a' H' → K' .normal ca' w') →
  wpListIn (FW rd) 0 P ops K' l ca w
 | [], a, H, μ, Z, w, ca, h, hR, hA, hK => hK a ca μ Z H w hR hA (Ev.refl μ Z H w) h
 | o :: rest, a, H, μ, Z, w, ca, h, hR, hA, hK => by
  simp only [AOps] at h
  split at h
  ·rename_i b hb
   have hw := wanted_of rfl hb hA.tmps
   unfold wpListIn
   rw [hw]
   cases b with
   | true =>
    rw [if_pos rfl]
    have h := h.1 rfl
    refine lands_wp (aop_noDefer h) (aop_lands rd hY h hR hA.ev) ?_
    intro v cv μ' Z' H' w' k1 k2 k3 k4
    exact aops_sound hY rd rest _ H' μ' Z' w' _ k4 k1 ((hA.evolve hR k3).put o.dst k2) (fun a' ca' μ'' Z'' H'' w'' j1 j2 j3 j4 => hK a' ca' μ'' Z'' H'' w'' j1 j2 (k3.trans j3) j4)
   | false =>
    rw [if_neg (by simp)]
    exact ⟨fun _ _ => trivial, aops_sound hY rd rest _ H μ Z w _ (h.2 rfl) hR (hA.put o.dst (.undef _)) hK⟩
  ·exact h.elim

/-- A REGION IN THE ORDER OF THE TEXT. -/
theorem AWP.region {id : Nat} {ops : Array Oper} (hY : YSound P B w0 Y) (h : AOps P B w0 Y ops.toList ops.toList (Q .normal) a H) : AWP P B w0 rd (.region id ops false) Q a H := by
 intro E0 μ Z w ca h1 h2 h3
 refine wpIn_region_list (aops_sound hY _ ops.toList a H μ Z w ca h h1 h2 ?_)
 intro a' ca' μ' Z' H' w' k1 k2 k3 k4
 exact ⟨μ', Z', a', H', k1, k2, k3, k4⟩

theorem resOne_run {r : ResultVar} (h : resOne P H a r = some v) (hR : R B w0 μ Z H w) (hA : VRs μ Z w H.length a ca.tmps) :
  ∃ cv, (resSem ca.tmps r).run P w = .ok cv w ∧ VR μ Z w H.length v cv := by
 have hget : ∀ t, VR μ Z w H.length (a.getD t .undef) (ca.tmps.getD t undef) := by
  intro t
  simp only [List.getD]
  cases hd2 : a[t]? with
  | none => exact .undef _
  | some v =>
   obtain ⟨u, k1, k2⟩ := hA.2 t v hd2
   rw [Array.getD_eq_getD_getElem?, k1]
   exact k2
 cases r with
 | tmp t =>
  simp only [resOne, Option.some.injEq] at h
  subst h
  exact ⟨_, rfl, hget t⟩
 | cell p t =>
  simp only [resOne] at h
  cases hc : cellsAt H (a.getD p .undef) with
  | none => rw [hc] at h; cases h
  | some l =>
   rw [hc] at h
   simp only [Option.bind_some] at h
   obtain ⟨c, o', h1, h2⟩ := cells_get hc hR (hget p)
   obtain ⟨cv, h3, h4, _⟩ := load_run (P := P) h h2
   exact ⟨cv, by simp [resSem, h1, asAddr, h3], h4⟩

theorem res_mapM (hR : R B w0 μ Z H w) (hA : VRs μ Z w H.length a ca.tmps) : ∀ {l : List ResultVar} {vs : List AV}, l.mapM (resOne P H a) = some vs →
  ∃ cvs : List Value, (l.mapM (resSem ca.tmps)).run P w = .ok cvs w ∧ VRs μ Z w H.length vs cvs.toArray
 | [], vs, h => by
  simp at h; subst h
  exact ⟨[], by simp [Sem.run_pure], rfl, by simp⟩
 | r :: l, vs, h => by
  simp only [List.mapM_cons] at h
  cases h1 : resOne P H a r with
  | none => rw [h1] at h; cases h
  | some v =>
   cases h2 : l.mapM (resOne P H a) with
   | none => rw [h1, h2] at h; cases h
   | some us =>
    rw [h1, h2] at h
    cases h
    obtain ⟨cv, k1, k2⟩ := resOne_run (P := P) h1 hR hA
    obtain ⟨cvs, k3, k4⟩ := res_mapM hR hA h2
    refine ⟨cv :: cvs, ?_, by simp [k4.1], ?_⟩
    ·simp only [List.mapM_cons, Sem.run_bind, k1, Result.andThen_ok, k3, Sem.run_pure]
    ·intro j u hj
     cases j with
     | zero => simp at hj; subst hj; exact ⟨cv, by simp, k2⟩
     | succ j => obtain ⟨u', q1, q2⟩ := k4.2 j u (by simpa using hj); exact ⟨u', by simpa using q1, q2⟩

theorem mapM_len {α β : Type} (f : α → Option β) : ∀ {l : List α} {vs : List β}, l.mapM f = some vs → l.length = vs.length
 | [], vs, h => by simp at h; subst h; rfl
 | r :: l, vs, h => by
  simp only [List.mapM_cons] at h
  cases q1 : f r with
  | none => rw [q1] at h; cases h
  | some v =>
   cases q2 : l.mapM f with
   | none => rw [q1, q2] at h; cases h
   | some us => rw [q1, q2] at h; cases h; simp [mapM_len f q2]

theorem res_run {fn : Func} (h : resA P H a fn.results.toList = some v) (hR : R B w0 μ Z H w) (hA : VRs μ Z w H.length a ca.tmps) : ∃ cv, (results fn ca.tmps).run P w = .ok cv w ∧ VR μ Z w H.length v cv := by
 rw [results_eq, Array.mapM_eq_mapM_toList]
 have hmap : ∀ (m : Sem (List Value)) (r : List Value), m.run P w = .ok r w → (List.toArray <$> m).run P w = .ok r.toArray w := by
  intro m r hm
  show (m >>= fun x => pure x.toArray).run P w = _
  simp [hm]
 unfold resA at h
 split at h
 ·rename_i r hl
  obtain ⟨cv, k1, k2⟩ := resOne_run (P := P) h hR hA
  obtain ⟨cvs, k3, k4⟩ := res_mapM (P := P) (l := [r]) (vs := [v]) hR hA (by simp [h])
  have hone : cvs = [cv] := by
   simp only [List.mapM_cons, List.mapM_nil, Sem.run_bind, k1, Result.andThen_ok, Sem.run_pure, Result.ok.injEq, and_true] at k3
   exact k3.symm
  subst hone
  refine ⟨cv, ?_, k2⟩
  rw [hl, Sem.run_bind, hmap _ _ k3]
  rfl
 ·rename_i hne
  cases hm : fn.results.toList.mapM (resOne P H a) with
  | none => rw [hm] at h; cases h
  | some vs =>
   rw [hm] at h
   simp only [Option.map_some, Option.some.injEq] at h
   subst h
   obtain ⟨cvs, k3, k4⟩ := res_mapM (P := P) hR hA hm
   refine ⟨.tuple cvs.toArray, ?_, k4.tup⟩
   rw [Sem.run_bind, hmap _ _ k3]
   simp only [Result.andThen_ok]
   have hlen : cvs.length ≠ 1 := by
    intro hl
    have h1 : vs.length = 1 := by rw [k4.1]; simpa using hl
    have h2 : fn.results.toList.length = vs.length := mapM_len _ hm
    match hr : fn.results.toList, h2 with
    | [r], _ => exact hne r hr
    | [], h2 => simp at h2; omega
    | _ :: _ :: _, h2 => simp at h2; omega
   rw [dif_neg (by simpa using hlen)]
   rfl

/-- A block of deferred calls is taken over. -/
theorem take_deferred (hR : R B w0 μ Z H w) {D : Nat} (hD : w.heap[D]? = some (.deferred (some []))) (hB : B ≤ D) :
  ∃ w', (Instr.takeDeferred D).run P w = .ok [] w' ∧ R B w0 μ Z H w' ∧ (∀ k : Nat, k ≠ D → w'.heap[k]? = w.heap[k]?) ∧ w'.heap.size = w.heap.size ∧
   (∀ c o, w'.cell? ⟨c, o, none⟩ = w.cell? ⟨c, o, none⟩) ∧ (∀ c, w'.shape? c = w.shape? c) := by
 have hlt := deferred_lt hD
 let w' : World := { w with heap := w.heap.setIfInBounds D (.deferred none) }
 have hoth : ∀ k : Nat, k ≠ D → w'.heap[k]? = w.heap[k]? := fun k hk => by
  show (w.heap.setIfInBounds D _)[k]? = _
  rw [Array.getElem?_setIfInBounds, if_neg (fun e => hk e.symm)]
 have hself : w'.heap[D]? = some (.deferred none) := by
  show (w.heap.setIfInBounds D _)[D]? = _
  rw [Array.getElem?_setIfInBounds, if_pos rfl, if_pos hlt]
 have hsize : w'.heap.size = w.heap.size := by show (w.heap.setIfInBounds D _).size = _; simp
 have hcell : ∀ c o, w'.cell? ⟨c, o, none⟩ = w.cell? ⟨c, o, none⟩ := by
  intro c o
  by_cases hc : c = D
  ·subst hc; simp only [World.cell?, hself, hD]
  ·exact World.cell?_of_block (a := ⟨c, o, none⟩) (hoth c hc)
 have hshape : ∀ c, w'.shape? c = w.shape? c := by
  intro c
  by_cases hc : c = D
  ·subst hc; simp only [World.shape?, hself, hD]
  ·simp only [World.shape?, hoth c hc]
 refine ⟨w', ?_, ?_, hoth, hsize, hcell, hshape⟩
 ·simp only [Instr.takeDeferred, getObj, setObj, Sem.run_bind, Sem.run, hD, Result.andThen_ok]
  rfl
 ·refine ⟨hR.below.trans ⟨rfl, rfl, rfl, by omega, fun k hk => hoth k (by omega)⟩, by rw [hsize]; exact hR.hB, fun c o h => by rw [hsize]; exact hR.zlt c o h, fun id o hid => ?_, hR.inj⟩
  have hl := (List.getElem?_eq_some_iff.1 hid).1
  refine OR.keep (hR.obj id o hid) hl (Nat.le_refl _) (fun _ _ => rfl) (fun _ _ h => h) (fun c o _ => hcell c o) (fun c _ => hshape c) (by omega) ?_ (fun _ h => h)
  intro ha
  exact hoth _ (hR.unowned hD id o hid ha)

theorem leaves_marks {fn : Func} {tmps : Array Value} {Rr : Ending → World → Prop} {He : AHeap} {μe : Nat → Nat × Nat} {Ze : Nat → Nat → Prop} {we : World} {K : AV → AHeap → Prop} (hres : resA P H a fn.results.toList = some v) (hK : K v H)
  (hRr : ∀ cv μ' w', R B w0 μ' Z H w' → VR μ' Z w' H.length v cv → Ev μe Ze He we μ' Z H w' → Rr (.returned cv) w') (hB : B ≤ we.heap.size) : ∀ (Ds : List Nat) (w : World) (ca : Act), ca.tmps = tmps → R B w0 μ Z H w → VRs μ Z w H.length a tmps → Ev μe Ze He we μ Z H w →
  Ds.Nodup → (∀ D, D ∈ Ds → we.heap.size ≤ D ∧ w.heap[D]? = some (.deferred (some []))) →
  LeavesInM (FW none) 0 P fn tmps Rr (Ds.map (fun D => { target := .collected D, args := #[] })) .returning w
 | [], w, ca, hca, hR, hA, hE, _, _ => by
  obtain ⟨cv, k1, k2⟩ := res_run (P := P) (ca := { tmps := tmps, defers := [] }) hres hR hA
  exact ⟨cv, k1, hRr cv μ w hR k2 hE⟩
 | D :: Ds, w, ca, hca, hR, hA, hE, hnd, hD => by
  obtain ⟨h1, h2⟩ := hD D (by simp)
  obtain ⟨w', k1, k2, k3, k4, k5, k6⟩ := take_deferred (P := P) hR h2 (by omega)
  refine ⟨by simp, .inl ⟨D, w', rfl, k1, ?_⟩⟩
  have hE' : Ev μe Ze He we μ Z H w' := by
   refine ⟨hE.len, hE.mu, hE.z, fun c o h => (k5 c o).trans (hE.zcell c o h), fun c h => (k6 c).trans (hE.shape c h), by have := hE.size; omega, fun c hc hu => (k3 c (by omega)).trans (hE.frame c hc hu), hE.own, hE.znew⟩
  have hA' : VRs μ Z w' H.length a tmps := hA.mono (Nat.le_refl _) (fun _ _ => rfl) (fun _ _ h => h) (fun c o _ => k5 c o) (fun c _ => k6 c)
  exact leaves_marks hres hK hRr hB Ds w' ca hca k2 hA' hE' (List.nodup_cons.1 hnd).2 (fun D' hD' => by
   obtain ⟨q1, q2⟩ := hD D' (by simp [hD'])
   exact ⟨q1, (k3 D' (fun e => (List.nodup_cons.1 hnd).1 (e ▸ hD'))).trans q2⟩)

/-- A FUNCTION, BY ITS BODY. -/
theorem ACall.enter {f : FuncId} {fn : Func} {c : Code} {args : List AV} {K : AV → AHeap → Prop} (hf : P.funcs[f]? = some fn) (hname : (fn.name == "runtime.NumGoroutine") = false) (hb : fn.body = some c)
  (h : AWP P B w0 none c (bodyQ P fn K) (args ++ List.replicate (fn.ntmps - args.length) .undef) H) : ACall P B w0 f args H K := by
 refine ⟨?_, ?_⟩
 ·intro args w
  have h1 : fn.name ≠ "runtime.NumGoroutine" := by simpa using hname
  simp [callFunc, hf, h1, hb, mark]
 ·intro μ Z w cargs hR hA
  refine callsIn_of_wp_marks hf hb trivial ?_ rfl
  have hargs : VRs μ Z w H.length (args ++ List.replicate (fn.ntmps - args.length) .undef) (cargs ++ Array.replicate (fn.ntmps - cargs.size) undef) := by
   refine hA.append ⟨by simp [hA.1], fun j v hj => ?_⟩
   have hlt : j < fn.ntmps - args.length := by have := (List.getElem?_eq_some_iff.1 hj).1; simpa using this
   have : v = .undef := List.eq_of_mem_replicate (List.mem_of_getElem? hj)
   subst this
   exact ⟨undef, by rw [← hA.1]; simp [hlt], .undef _⟩
  have := h w.heap.size μ Z w { tmps := cargs ++ Array.replicate (fn.ntmps - cargs.size) undef, defers := [] } hR ⟨hargs, Nat.le_refl _, [], rfl, List.nodup_nil, by simp⟩ (by simp)
  refine wpIn_mono this ?_
  rintro e ca' w' ⟨μ', Z', a', H', k1, k2, k3, k4⟩
  obtain ⟨Ds, m1, m2, m3⟩ := k2.marks
  have leave : ∀ v, resA P H' a' fn.results.toList = some v → K v H' → LeavesInM (FW none) 0 P fn ca'.tmps (fun e w' => ∃ v cv μ' Z' H', e = .returned cv ∧ R B w0 μ' Z' H' w' ∧ VR μ' Z' w' H'.length v cv ∧ Ev μ Z H w μ' Z' H' w' ∧ K v H') ca'.defers .returning w' := by
   intro v hv hK
   rw [m1]
   exact leaves_marks (K := K) hv hK (fun cv μ'' w'' q1 q2 q3 => ⟨v, cv, μ'', Z', H', rfl, q1, q2, q3, hK⟩) hR.hB Ds w' ca' rfl k1 k2.tmps k3 m2 m3
  cases e with
  | normal => obtain ⟨v, hv, hK⟩ := k4; exact leave v hv hK
  | ret => obtain ⟨v, hv, hK⟩ := k4; exact leave v hv hK
  | exit => exact k4.elim
  | goto => exact k4.elim
  | panic => exact k4.elim
  | outgrown => exact k4.elim
end
end Go.Av
end
