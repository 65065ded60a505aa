/- the layer over the model, part 9 -/
import Derived.RangeFuncIn
import Derived.Test.YtahhhfgmcdajhaaA8
set_option autoImplicit false
set_option linter.unusedSimpArgs false
set_option linter.unusedVariables false
set_option linter.unnecessarySimpa false
section
set_option linter.unusedSimpArgs false
set_option linter.unusedVariables false
namespace Go.Av
open Go.RowKit

/-- The temps at a round's begin. -/
def setArgs (env : List AV) (ps : List Tmp) (args : List AV) : List AV := (ps.zip args).foldl (fun a p => a.set p.1 p.2) env

def roundQ (l : Nat) (env : List AV) (ps : Array Tmp) (assign body : Code) (K : AV → AHeap → Prop) : Exit → List AV → AHeap → Prop
 | .normal, _, H => H[l]? = some (.loop env ps assign body none false) ∧ K (.bool true) (H.set l (.loop env ps assign body none true))
 | .ret, _, H => H[l]? = some (.loop env ps assign body none false) ∧ K (.bool false) (H.set l (.loop env ps assign body (some .ret) false))
 | .exit id, _, H => H[l]? = some (.loop env ps assign body none false) ∧ K (.bool false) (H.set l (.loop env ps assign body (some (.exit id)) false))
 | _, _, _ => False

def assignQ (P : Program) (B : Nat) (w0 : World) (l : Nat) (env : List AV) (ps : Array Tmp) (assign body : Code) (K : AV → AHeap → Prop) : Exit → List AV → AHeap → Prop
 | .normal, a, H => H[l]? = some (.loop env ps assign body none true) ∧ AWP P B w0 (some l) body (roundQ l env ps assign body K) a (H.set l (.loop env ps assign body none false))
 | _, _, _ => False

/-- What a call of yield comes to. -/
def roundY (P : Program) (B : Nat) (w0 : World) : Hand := fun l args H K => ∃ env ps assign body, H[l]? = some (.loop env ps assign body none true) ∧ args.length = ps.size ∧
 AWP P B w0 (some l) assign (assignQ P B w0 l env ps assign body K) (setArgs env ps.toList args) H

def jumpQ (P : Program) (B : Nat) (w0 : World) (rd : Option Nat) (Q : Exit → List AV → AHeap → Prop) (a : List AV) (H : AHeap) : Option Code → Prop
 | none => Q .normal a H
 | some c => AWP P B w0 rd c Q a H

/-- What is asked where the function that was ranged over has ended. -/
def rangeEnd (P : Program) (B : Nat) (w0 : World) (rd : Option Nat) (Q : Exit → List AV → AHeap → Prop) (a : List AV) (l : Nat) (ps : Array Tmp) (assign body : Code) : AV → AHeap → Prop := fun _ H' =>
 ∃ pe rdy, H'[l]? = some (.loop a ps assign body pe rdy) ∧ (rdy = true ∨ pe.isSome = true) ∧ jumpQ P B w0 rd Q a (H'.set l .dead) pe

section
variable {P : Program} {B : Nat} {w0 : World} {rd : Option Nat} {a : List AV} {H : AHeap} {μ μ' : Nat → Nat × Nat} {Z Z' : Nat → Nat → Prop} {w w' : World} {n n' : Nat} {E0 : Nat} {ca : Act}

theorem VRs.args : ∀ (ps : List Tmp) (args : List AV) (cargs : List Value) (env : List AV) (tmps : Array Value), VRs μ Z w n args cargs.toArray → VRs μ Z w n env tmps → VRs μ Z w n (setArgs env ps args) ((ps.zip cargs).foldl (fun tmps p => tmps.setIfInBounds p.1 p.2) tmps)
 | [], args, cargs, env, tmps, h1, h2 => by simpa [setArgs] using h2
 | p :: ps, [], cargs, env, tmps, h1, h2 => by
  have : cargs = [] := by have := h1.1; simpa using this.symm
  subst this
  simpa [setArgs] using h2
 | p :: ps, x :: args, [], env, tmps, h1, h2 => by have := h1.1; simp at this
 | p :: ps, x :: args, c :: cargs, env, tmps, h1, h2 => by
  have hx : VR μ Z w n x c := by
   obtain ⟨v', k1, k2⟩ := h1.2 0 x rfl
   simp at k1; subst k1; exact k2
  have hrest : VRs μ Z w n args cargs.toArray := ⟨by have := h1.1; simpa using this, fun j v hj => by
   obtain ⟨v', k1, k2⟩ := h1.2 (j + 1) v (by simpa using hj)
   exact ⟨v', by simpa using k1, k2⟩⟩
  have hset : VRs μ Z w n (env.set p x) (tmps.setIfInBounds p c) := by
   have := VRs.set (ca := { tmps := tmps, defers := [] }) h2 (some p) hx
   exact this
  have := VRs.args ps args cargs (env.set p x) (tmps.setIfInBounds p c) hrest hset
  simpa [setArgs] using this

/-- A loop's record is set anew. -/
theorem R.setLoop (hR : R B w0 μ Z H w) {l : Nat} {env : List AV} {ps : Array Tmp} {as bd : Code} {pe : Option Code} {rdy : Bool} (hl : H[l]? = some (.loop env ps as bd pe rdy)) {r : Loop} (hr : w.heap[(μ l).1]? = some (.loop r)) (r' : Loop) (o' : AObj)
  (ho : o' = .dead ∨ ∃ pe' rdy', o' = .loop env ps as bd pe' rdy' ∧ r'.state = (if rdy' then .ready else if pe'.isSome then .done else .busy) ∧ r'.pending = pe' ∧ r'.params = r.params ∧ r'.assign = r.assign ∧ r'.body = r.body ∧ r'.tmps = r.tmps) :
  R B w0 μ Z (H.set l o') { w with heap := w.heap.setIfInBounds (μ l).1 (.loop r') } ∧ Ev μ Z H w μ Z (H.set l o') { w with heap := w.heap.setIfInBounds (μ l).1 (.loop r') } := by
 let w' : World := { w with heap := w.heap.setIfInBounds (μ l).1 (.loop r') }
 have hlt : (μ l).1 < w.heap.size := (Array.getElem?_eq_some_iff.1 hr).1
 have hoth : ∀ k : Nat, k ≠ (μ l).1 → w'.heap[k]? = w.heap[k]? := fun k hk => by
  show (w.heap.setIfInBounds _ _)[k]? = _
  rw [Array.getElem?_setIfInBounds, if_neg (fun e => hk e.symm)]
 have hself : w'.heap[(μ l).1]? = some (.loop r') := by
  show (w.heap.setIfInBounds _ _)[(μ l).1]? = _
  rw [Array.getElem?_setIfInBounds, if_pos rfl, if_pos hlt]
 have hcell : ∀ c o, w'.cell? ⟨c, o, none⟩ = w.cell? ⟨c, o, none⟩ := by
  intro c o
  by_cases hc : c = (μ l).1
  ·subst hc; simp only [World.cell?, hself, hr]
  ·exact World.cell?_of_block (a := ⟨c, o, none⟩) (hoth c hc)
 have hshape : ∀ c, w'.shape? c = w.shape? c := by
  intro c
  by_cases hc : c = (μ l).1
  ·subst hc; simp only [World.shape?, hself, hr]
  ·simp only [World.shape?, hoth c hc]
 refine R.change (w' := w') hR hl rfl (fun k _ hk => hoth k hk) (by show (w.heap.setIfInBounds _ _).size = _; simp) rfl rfl rfl (fun c o _ => hcell c o) (hshape _) ?_
 intro _ _
 rcases ho with rfl | ⟨pe', rdy', rfl, h1, h2, h3, h4, h5, h6⟩
 ·trivial
 ·obtain ⟨g0, r0, g1, g2, g3, g4, g5, g6, g7⟩ := hR.obj l _ hl
  rw [hr] at g1; cases g1
  exact ⟨g0, r', hself, h1, h2, h3.trans g4, h4.trans g5, h5.trans g6, by rw [h6]; exact g7.mono (Nat.le_refl _) (fun _ _ => rfl) (fun _ _ h => h) (fun c o _ => hcell c o) (fun c _ => hshape c)⟩

theorem run_getLoop {l : Nat} {r : Loop} (h : w.heap[l]? = some (.loop r)) : (Instr.getLoop l).run P w = .ok r w := by
 simp only [Instr.getLoop, getObj, Sem.run_bind, Sem.run, h, Result.andThen_ok]
 rfl
theorem run_setObj {l : Nat} {r : Loop} (h : w.heap[l]? = some (.loop r)) (o : Obj) : (setObj l o).run P w = .ok () { w with heap := w.heap.setIfInBounds l o } := by
 simp only [setObj, Sem.run_bind, Sem.run, h, Result.andThen_ok]

theorem roundY_sound : YSound P B w0 (roundY P B w0) := by
 rintro l args H K ⟨env, ps, assign, body, hl, hargs, hass⟩ μ Z w cargs hR hA hlt
 obtain ⟨g0, r, g1, g2, g3, g4, g5, g6, g7⟩ := hR.obj l _ hl
 have hsz : cargs.size = r.params.size := by rw [g4, ← hargs]; exact hA.1.symm
 refine ⟨r.fn, (r.params.zip cargs).foldl (fun tmps p => tmps.setIfInBounds p.1 p.2) r.tmps, r.assign, r.body, ?_, ?_⟩
 ·simp only [Instr.yield, Sem.run_bind, run_getLoop g1, Result.andThen_ok, hsz, ne_eq, not_true_eq_false, if_false]
  rfl
 ·refine roundIn_of_wpIn trivial ?_
  rw [g5, g6]
  have htm : VRs μ Z w H.length (setArgs env ps.toList args) ((r.params.zip cargs).foldl (fun tmps p => tmps.setIfInBounds p.1 p.2) r.tmps) := by
   have := VRs.args ps.toList args cargs.toList env r.tmps (by simpa using hA) g7
   rw [g4]
   rw [← Array.foldl_toList, Array.toList_zip]
   exact this
  have h1 := hass w.heap.size μ Z w { tmps := (r.params.zip cargs).foldl (fun tmps p => tmps.setIfInBounds p.1 p.2) r.tmps, defers := [] } hR ⟨htm, Nat.le_refl _, [], rfl, List.nodup_nil, by simp⟩ (fun l' hl' => by cases hl'; exact hlt)
  refine wpIn_mono h1 ?_
  rintro e ca1 w1 ⟨μ1, Z1, a1, H1, k1, k2, k3, k4⟩
  cases e with
  | normal =>
   obtain ⟨hl1, hbody⟩ := k4
   obtain ⟨f0, r1, f1, f2, f3, f4, f5, f6, f7⟩ := k1.obj l _ hl1
   have hmu : μ1 l = μ l := k3.mu l hlt
   rw [hmu] at f1
   have hset := R.setLoop (r := r1) k1 hl1 (by rw [hmu]; exact f1) { r1 with state := .busy } (.loop env ps assign body none false) (.inr ⟨none, false, rfl, rfl, f3, rfl, rfl, rfl, rfl⟩)
   rw [hmu] at hset
   obtain ⟨s1, s2⟩ := hset
   refine ⟨{ w1 with heap := w1.heap.setIfInBounds (μ l).1 (.loop { r1 with state := .busy }) }, ?_, ?_⟩
   ·have hst : r1.state = .ready := by simpa using f2
    simp only [Instr.beginRound, Sem.run_bind, run_getLoop f1, Result.andThen_ok, run_setObj f1, hst]
    rfl
   ·have hlt1 : l < H1.length := (List.getElem?_eq_some_iff.1 hl1).1
    have h2 := hbody w.heap.size μ1 Z1 _ ca1 s1 (k2.evolve k1 s2) (fun l' hl' => by cases hl'; simpa using hlt1)
    rw [show ((some l).map fun l => (μ1 l).1) = some (μ l).1 from by simp [hmu]] at h2
    refine wpIn_mono h2 ?_
    rintro e ca2 w2 ⟨μ2, Z2, a2, H2, q1, q2, q3, q4⟩
    have hmu2 : μ2 l = μ l := (q3.mu l (by simpa using hlt1)).trans hmu
    have fin : ∀ (jump : Option Code) (b : Bool), jump.isNone = b → H2[l]? = some (.loop env ps assign body none false) → K (.bool b) (H2.set l (.loop env ps assign body jump b)) →
      ∃ v w'', (Instr.endRound (μ l).1 jump).run P w2 = .ok v w'' ∧ ∃ v1 cv μ' Z' H', Ending.returned v = .returned cv ∧ R B w0 μ' Z' H' w'' ∧ VR μ' Z' w'' H'.length v1 cv ∧ Ev μ Z H w μ' Z' H' w'' ∧ K v1 H' := by
     intro jump b hb hl2 hk
     obtain ⟨e0, r2, e1, e2, e3, e4, e5, e6, e7⟩ := q1.obj l _ hl2
     rw [hmu2] at e1
     have hset2 := R.setLoop (r := r2) q1 hl2 (by rw [hmu2]; exact e1) { r2 with state := if jump.isNone then .ready else .done, pending := jump } (.loop env ps assign body jump b) (.inr ⟨jump, b, rfl, by cases jump <;> simp_all, rfl, rfl, rfl, rfl, rfl⟩)
     rw [hmu2] at hset2
     obtain ⟨t1, t2⟩ := hset2
     refine ⟨.bool jump.isNone, _, ?_, .bool b, .bool jump.isNone, μ2, Z2, _, rfl, t1, by rw [hb]; exact .bool b, ((k3.trans s2).trans q3).trans t2, hk⟩
     simp only [Instr.endRound, Sem.run_bind, run_getLoop e1, Result.andThen_ok, run_setObj e1]
     rfl
    cases e with
    | normal => exact fin none true rfl q4.1 q4.2
    | ret => exact fin (some .ret) false rfl q4.1 q4.2
    | exit id => exact fin (some (.exit id)) false rfl q4.1 q4.2
    | goto => exact q4.elim
    | panic => exact q4.elim
    | outgrown => exact q4.elim
  | _ => exact k4.elim

end

section
variable {P : Program} {B : Nat} {w0 : World} {rd : Option Nat} {a : List AV} {H : AHeap} {μ μ' : Nat → Nat × Nat} {Z Z' : Nat → Nat → Prop} {w w' : World} {n n' : Nat} {E0 : Nat} {ca : Act}

theorem run_newObj (o : Obj) : (newObj o).run P w = .ok w.heap.size (w.alloc o) := rfl

/-- A RANGE OVER A FUNCTION. -/
theorem AWP.rangeFunc {g : Operand} {ps : Array Tmp} {assign body : Code} {Q : Exit → List AV → AHeap → Prop} {k : Nat} {first cap : List AV}
  (hrd : ∀ l0, rd = some l0 → ∃ env ps as bd pe rdy, H[l0]? = some (.loop env ps as bd pe rdy)) (hg : ev a g = .fn (.func k) first cap)
  (h : ACall P B w0 k (first ++ [.fn (.yield H.length) [] []] ++ cap) (H ++ [.loop a ps assign body none true]) (rangeEnd P B w0 rd Q a H.length ps assign body)) : AWP P B w0 rd (.rangeFunc g ps assign body) Q a H := by
 intro E0 μ Z w ca hR hA h3
 refine wpIn_rangeFunc ?_
 intro fn _
 -- the function's value
 have hgv := hA.ev g
 rw [hg] at hgv
 -- the block for the rounds' deferred calls, and its mark
 obtain ⟨D, mark, wD, hD, hRD, hED, hAD⟩ : ∃ (D : Nat) (mark : List Deferred) (wD : World),
   (∀ r : Loop, (Instr.enterLoop fn ca.tmps ps assign body (FW (rd.map fun l => (μ l).1)).round).run P w = .ok (wD.heap.size, mark) (wD.alloc (.loop { state := .ready, pending := none, fn := fn, tmps := ca.tmps, params := ps, assign := assign, body := body, defers := D }))) ∧
   R B w0 μ Z H wD ∧ Ev μ Z H w μ Z H wD ∧ AR E0 μ Z wD H.length a { ca with defers := mark ++ ca.defers } := by
  cases rd with
  | none =>
   obtain ⟨r1, r2⟩ := hR.allocFree (.deferred (some []))
   refine ⟨w.heap.size, [{ target := .collected w.heap.size, args := #[] }], w.alloc (.deferred (some [])), fun _ => ?_, r1, r2, ?_⟩
   ·simp only [Instr.enterLoop, FW, Option.map_none, Sem.run_bind, run_newObj, Result.andThen_ok, Sem.run_pure]
   ·obtain ⟨t, e0, Ds, m1, m2, m3⟩ := hA.evolve hR r2
    obtain ⟨_, _, Ds', m1', m2', m3'⟩ := hA
    have hDs : Ds = Ds' := by
     have := m1.symm.trans m1'
     exact (List.map_inj_right (f := fun D => ({ target := .collected D, args := #[] } : Deferred)) (fun x y hxy => by simpa using hxy)).1 this
    subst hDs
    refine ⟨t, e0, w.heap.size :: Ds, by simp [m1], List.nodup_cons.2 ⟨fun hin => ?_, m2⟩, fun D' hD' => ?_⟩
    ·have := deferred_lt (m3' _ hin).2; omega
    ·rcases List.mem_cons.1 hD' with rfl | hD'
     ·exact ⟨by assumption, heap_alloc_new w _⟩
     ·exact m3 D' hD'
  | some l0 =>
   obtain ⟨env, ps0, as, bd, pe, rdy, hl0⟩ := hrd l0 rfl
   obtain ⟨_, r0, q1, _⟩ := hR.obj l0 _ hl0
   refine ⟨r0.defers, [], w, fun _ => ?_, hR, Ev.refl μ Z H w, hA⟩
   simp only [Instr.enterLoop, FW, Option.map_some, Sem.run_bind, run_getLoop q1, run_newObj, Result.andThen_ok, Sem.run_pure]
 -- the record
 have htm : VRs μ Z wD H.length a ca.tmps := hAD.tmps
 obtain ⟨hRL, hEL⟩ := hRD.push (.loop a ps assign body none true) (.loop { state := .ready, pending := none, fn := fn, tmps := ca.tmps, params := ps, assign := assign, body := body, defers := D }) rfl (by
  intro μ1 hm1 hm2
  refine ⟨by rw [hm2]; exact hRD.hB, { state := .ready, pending := none, fn := fn, tmps := ca.tmps, params := ps, assign := assign, body := body, defers := D }, by rw [hm2]; exact heap_alloc_new wD _, rfl, rfl, rfl, rfl, rfl, ?_⟩
  exact htm.mono (Nat.le_succ _) hm1 (fun _ _ h => h) (fun c o hz => cell_alloc wD _ c o (hRD.zlt c o hz)) (fun c hc => shape_alloc wD _ c hc))
 have hgL := hgv.ev (hED.trans hEL)
 generalize hcg : ca.eval g = cg at hgv hgL
 obtain ⟨v1, v2, hcv, hv1, hv2⟩ : ∃ v1 v2 : Array Value, cg = .func (.func k) v1 v2 ∧ VRs (ext μ H.length (wD.heap.size, 0)) Z (wD.alloc (.loop { state := .ready, pending := none, fn := fn, tmps := ca.tmps, params := ps, assign := assign, body := body, defers := D })) (H ++ [AObj.loop a ps assign body none true]).length first v1 ∧
   VRs (ext μ H.length (wD.heap.size, 0)) Z (wD.alloc (.loop { state := .ready, pending := none, fn := fn, tmps := ca.tmps, params := ps, assign := assign, body := body, defers := D })) (H ++ [AObj.loop a ps assign body none true]).length cap v2 := by
  cases hgL with
  | fn _ _ _ v1 v2 hl1 hl2 g1 g2 q1 q2 q3 q4 => exact ⟨v1, v2, rfl, ⟨hl1, fun j v hj => ⟨g1 j, q1 j v hj, q2 j v hj⟩⟩, ⟨hl2, fun j v hj => ⟨g2 j, q3 j v hj, q4 j v hj⟩⟩⟩
 subst hcv
 obtain ⟨hen, hcall⟩ := h
 have hargs : VRs (ext μ H.length (wD.heap.size, 0)) Z (wD.alloc (.loop { state := .ready, pending := none, fn := fn, tmps := ca.tmps, params := ps, assign := assign, body := body, defers := D })) (H ++ [AObj.loop a ps assign body none true]).length (first ++ [.fn (.yield H.length) [] []] ++ cap) (v1 ++ #[.func (.yield wD.heap.size) #[] #[]] ++ v2) := by
  refine (hv1.append ⟨rfl, fun j v hj => ?_⟩).append hv2
  cases j with
  | zero =>
   simp at hj; subst hj
   refine ⟨_, rfl, ?_⟩
   have := VR.yield (μ := ext μ H.length (wD.heap.size, 0)) (Z := Z) (w := wD.alloc (.loop { state := .ready, pending := none, fn := fn, tmps := ca.tmps, params := ps, assign := assign, body := body, defers := D })) (n := (H ++ [AObj.loop a ps assign body none true]).length) H.length (by simp)
   rw [ext_eq] at this
   exact this
  | succ j => simp at hj
 have hcall := hcall _ _ _ _ hRL hargs
 refine ⟨wD.heap.size, mark, _, { target := .fn (.func k) v2, args := v1 ++ #[.func (.yield wD.heap.size) #[] #[]] }, wD.alloc (.loop { state := .ready, pending := none, fn := fn, tmps := ca.tmps, params := ps, assign := assign, body := body, defers := D }), k, v1 ++ #[.func (.yield wD.heap.size) #[] #[]] ++ v2,
  wD.alloc (.loop { state := .ready, pending := none, fn := fn, tmps := ca.tmps, params := ps, assign := assign, body := body, defers := D }), hD default, ?_, fun _ _ => trivial, by simp only [invoke]; exact hen _ _, fun h => (by cases h), ?_⟩
 ·have hmap : Array.map ca.eval #[Operand.const (Value.func (Fn.yield wD.heap.size) #[] #[])] = #[Value.func (Fn.yield wD.heap.size) #[] #[]] := by
   simp [Act.eval]
  simp only [resolve, rangeCall, hcg, Deferred.ofValue, hmap, Sem.run_pure]
 ·refine CallsIn.mono (F := FW (rd.map fun l => (μ l).1)) (R := fun e w' => ∃ v cv μ' Z' H', e = .returned cv ∧ R B w0 μ' Z' H' w' ∧ VR μ' Z' w' H'.length v cv ∧ Ev _ Z _ _ μ' Z' H' w' ∧ rangeEnd P B w0 rd Q a H.length ps assign body v H') ⟨trivial, hcall.2⟩ ?_
  rintro e w' ⟨v, cv, μ', Z', H', rfl, k1, k2, k3, pe, rdy, hl', hst, hjump⟩
  obtain ⟨f0, r, f1, f2, f3, f4, f5, f6, f7⟩ := k1.obj H.length _ hl'
  have hmu : μ' H.length = (wD.heap.size, 0) := (k3.mu H.length (by simp)).trans ext_eq
  have hset := R.setLoop (r := r) k1 hl' f1 { r with state := .exhausted } .dead (.inl rfl)
  rw [hmu] at hset f1
  obtain ⟨s1, s2⟩ := hset
  have hEall := ((hED.trans hEL).trans k3).trans s2
  have hAfin := ((hAD.evolve hRD hEL).evolve hRL k3).evolve k1 s2
  refine ⟨pe, { w' with heap := w'.heap.setIfInBounds wD.heap.size (.loop { r with state := .exhausted }) }, ?_, ?_⟩
  ·have hnb : (r.state == .busy) = false := by
    rw [f2]
    rcases hst with rfl | hst
    ·rfl
    ·cases rdy
     ·cases pe with
      | none => cases hst
      | some c => rfl
     ·rfl
   simp only [Instr.endLoop, Sem.run_bind, run_getLoop f1, Result.andThen_ok, hnb]
   simp only [Bool.false_eq_true, if_false, Sem.run_bind, Sem.run_pure, Result.andThen_ok, run_setObj f1, f3]
  ·cases pe with
   | none => exact ⟨μ', Z', a, _, s1, hAfin, hEall, hjump⟩
   | some c =>
    have h4 := hjump E0 μ' Z' _ _ s1 hAfin (fun l hl => by have := h3 l hl; have := hEall.len; omega)
    have hrd' := rd_same h3 hEall.mu
    rw [hrd'] at h4
    refine wpIn_mono h4 ?_
    rintro e ca2 w2 ⟨μ2, Z2, a2, H2, q1, q2, q3, q4⟩
    exact ⟨μ2, Z2, a2, H2, q1, q2, hEall.trans q3, q4⟩
end

theorem eawp_draw (P : Program) (B : Nat) (w0 : World) (rd : Option Nat) (Y : Hand) (Q : Exit → List AV → AHeap → Prop) (a : List AV) (H : AHeap) (id : Nat) (ops : Array Oper) : eawp P B w0 rd Y (.region id ops true) Q a H = AWP P B w0 rd (.region id ops true) Q a H := Eq.trans rfl rfl
theorem roundQ_normal (l : Nat) (env : List AV) (ps : Array Tmp) (assign body : Code) (K : AV → AHeap → Prop) (a : List AV) (H : AHeap) : roundQ l env ps assign body K .normal a H = (H[l]? = some (.loop env ps assign body none false) ∧ K (.bool true) (H.set l (.loop env ps assign body none true))) := Eq.trans rfl rfl
theorem assignQ_normal (P : Program) (B : Nat) (w0 : World) (l : Nat) (env : List AV) (ps : Array Tmp) (assign body : Code) (K : AV → AHeap → Prop) (a : List AV) (H : AHeap) : assignQ P B w0 l env ps assign body K .normal a H = (H[l]? = some (.loop env ps assign body none true) ∧ AWP P B w0 (some l) body (roundQ l env ps assign body K) a (H.set l (.loop env ps assign body none false))) := Eq.trans rfl rfl
end Go.Av
end

section
set_option linter.unusedSimpArgs false
set_option linter.unusedVariables false
namespace Go.Av
open Go.RowKit

section
variable {P : Program} {B : Nat} {w0 : World} {rd : Option Nat} {a : List AV} {H : AHeap} {μ μ' : Nat → Nat × Nat} {Z Z' : Nat → Nat → Prop} {w w' : World} {n n' : Nat} {E0 : Nat} {ca : Act}

/-- A variable that nobody writes any more. -/
theorem R.freeze (hR : R B w0 μ Z H w) {id : Nat} {cs : List AV} (hid : H[id]? = some (.cells cs)) (Z' : Nat → Nat → Prop) (hZ : ∀ c o, Z c o → Z' c o) (hZ' : ∀ c o, Z' c o → Z c o ∨ c = (μ id).1) :
  R B w0 μ Z' (H.set id .dead) w ∧ Ev μ Z H w μ Z' (H.set id .dead) w := by
 have hlt := hR.lt hid rfl
 refine ⟨⟨hR.below, hR.hB, fun c o h => ?_, fun i o hi => ?_, fun i j oi oj hi hj hai haj he => ?_⟩, ?_⟩
 ·rcases hZ' c o h with h | rfl
  ·exact hR.zlt c o h
  ·exact hlt
 ·rw [List.length_set]
  by_cases hii : id = i
  ·subst hii
   rw [List.getElem?_set_self (List.getElem?_eq_some_iff.1 hid).1] at hi
   cases hi; trivial
  ·rw [getElem?_set_ne hii] at hi
   have keep : o.alive = true → OR B μ Z' w H.length i o := by
    intro ha
    refine OR.keep (hR.obj i o hi) (List.getElem?_eq_some_iff.1 hi).1 (Nat.le_refl _) (fun _ _ => rfl) hZ (fun _ _ _ => rfl) (fun _ _ => rfl) (Nat.le_refl _) (fun _ => rfl) ?_
    intro off hz
    rcases hZ' _ _ hz with hz | hz
    ·exact hz
    ·exact absurd (hR.inj id i _ _ hid hi rfl ha hz.symm) hii
   cases o with
   | dead => trivial
   | _ => exact keep rfl
 ·have hi' : H[i]? = some oi := by
   by_cases hii : id = i
   ·subst hii
    rw [List.getElem?_set_self (List.getElem?_eq_some_iff.1 hid).1] at hi
    cases hi; cases hai
   ·rwa [getElem?_set_ne hii] at hi
  have hj' : H[j]? = some oj := by
   by_cases hjj : id = j
   ·subst hjj
    rw [List.getElem?_set_self (List.getElem?_eq_some_iff.1 hid).1] at hj
    cases hj; cases haj
   ·rwa [getElem?_set_ne hjj] at hj
  exact hR.inj i j oi oj hi' hj' hai haj he
 ·refine ⟨by simp, fun _ _ => rfl, hZ, fun _ _ _ => rfl, fun _ _ => rfl, Nat.le_refl _, fun _ _ _ => rfl, fun i o hi ha => ?_, fun c o h => (hZ' c o h).imp (fun h => h) (fun e => .inr ⟨id, _, hid, rfl, e.symm⟩)⟩
  by_cases hii : id = i
  ·subst hii
   rw [List.getElem?_set_self (List.getElem?_eq_some_iff.1 hid).1] at hi
   cases hi; cases ha
  ·rw [getElem?_set_ne hii] at hi
   exact .inr ⟨i, o, hi, ha, rfl⟩

/-- What a slice holds is taken into the value. -/
theorem AWP.freeze {c : Code} {Q : Exit → List AV → AHeap → Prop} {t id sz off len : Nat} {cs elems : List AV} (ht : a[t]? = some (.sl sz id off len)) (hid : H[id]? = some (.cells cs)) (hs : ∀ e, e ∈ elems → e.cells.length = sz) (hlen : elems.length = len)
  (hf : flat elems = (cs.drop off).take (len * sz)) (h : AWP P B w0 rd c Q (a.set t (.dl sz elems .none)) (H.set id .dead)) : AWP P B w0 rd c Q a H := by
 intro E0 μ Z w ca hR hA h3
 obtain ⟨g1, g2, ccs, e, fr, g3, g4, g5, g6⟩ := hR.obj id _ hid
 obtain ⟨r1, r2⟩ := hR.freeze hid (fun c o => Z c o ∨ (c = (μ id).1 ∧ (μ id).2 + off ≤ o ∧ o < (μ id).2 + off + len * sz)) (fun _ _ h => .inl h) (fun c o h => h.imp (fun h => h) (·.1))
 have hA' := hA.evolve hR r2
 have hfe := flat_length hs
 have htake : (flat elems).length = len * sz := by rw [hfe, hlen]
 obtain ⟨cv, hcv1, hcv2⟩ := hA.tmps.2 t _ ht
 have hcsl : len * sz = 0 ∨ off + len * sz ≤ cs.length := by
  rw [hf, List.length_take, List.length_drop] at htake
  omega
 have hcell : ∀ j, w.cell? ⟨(μ id).1, j, none⟩ = ccs[j]? := fun j => cell_of_row w _ _ ccs e fr g3
 have hvr : VR μ (fun c o => Z c o ∨ (c = (μ id).1 ∧ (μ id).2 + off ≤ o ∧ o < (μ id).2 + off + len * sz)) w H.length (.dl sz elems .none) cv := by
  cases hcv2 with
  | sl _ _ _ _ cap q1 q2 q3 e' N q4 q5 =>
   obtain ⟨f, hF⟩ : ∃ f : Nat → Value, ∀ j v, (flat elems)[j]? = some v → w.cell? ⟨(μ id).1, (μ id).2 + off + j, none⟩ = some (f j) ∧ (f j).oneCell' = true ∧ VR μ Z w H.length v (f j) := by
    refine ⟨fun j => (w.cell? ⟨(μ id).1, (μ id).2 + off + j, none⟩).getD default, fun j v hj => ?_⟩
    rw [hf, List.getElem?_take] at hj
    split at hj
    ·rw [List.getElem?_drop] at hj
     obtain ⟨v', p1, p2, p3⟩ := g6 _ _ hj
     have e1 : w.cell? ⟨(μ id).1, (μ id).2 + off + j, none⟩ = some v' := by rw [hcell, ← p1, Nat.add_assoc]
     simp only [e1, Option.getD_some]
     exact ⟨trivial, p2, p3⟩
    ·cases hj
   subst hlen
   refine .dl sz elems .none (μ id).1 ((μ id).2 + off) cap f hs q2 (fun j v hj => (hF j v hj).1) (fun j hj => .inr ⟨rfl, by omega, by omega⟩) (fun j v hj => ?_) (fun j hj => (hF j _ (List.getElem?_eq_getElem hj)).2.1) trivial
   exact ((hF j v hj).2.2).mono (Nat.le_refl _) (fun _ _ => rfl) (fun _ _ h => .inl h) (fun _ _ _ => rfl) (fun _ _ => rfl)
 have hput : AR E0 μ (fun c o => Z c o ∨ (c = (μ id).1 ∧ (μ id).2 + off ≤ o ∧ o < (μ id).2 + off + len * sz)) w (H.set id .dead).length (a.set t (.dl sz elems .none)) ca := by
  refine ⟨⟨by simp [hA.tmps.1], fun j v hj => ?_⟩, hA'.e0, hA'.marks⟩
  rw [List.getElem?_set] at hj
  split at hj
  ·rename_i htj
   subst htj
   split at hj
   ·cases hj
    exact ⟨cv, hcv1, by rw [List.length_set]; exact hvr⟩
   ·cases hj
  ·exact hA'.tmps.2 j v hj
 have := h E0 μ _ w ca r1 hput (fun l hl => by rw [List.length_set]; exact h3 l hl)
 refine wpIn_mono this ?_
 rintro e' ca2 w2 ⟨μ2, Z2, a2, H2, p1, p2, p3, p4⟩
 exact ⟨μ2, Z2, a2, H2, p1, p2, r2.trans p3, p4⟩
end
end Go.Av
end

section
set_option linter.unusedSimpArgs false
set_option linter.unusedVariables false
namespace Go.Av
open Go.RowKit

theorem wrap_i64 {x : Int} (h1 : -9223372036854775808 ≤ x) (h2 : x < 9223372036854775808) : IntKind.i64.wrap x = x := by
 unfold IntKind.wrap
 simp only [IntKind.bits, IntKind.signed, Bool.true_and, Nat.reduceSub, Int.reducePow, ge_iff_le]
 split
 ·rename_i h; try simp only [decide_eq_true_eq] at h
  omega
 ·rename_i h; try simp only [decide_eq_true_eq] at h
  omega
theorem wrap_u64 {x : Int} (h1 : 0 ≤ x) (h2 : x < 18446744073709551616) : IntKind.u64.wrap x = x := by
 unfold IntKind.wrap
 simp only [IntKind.bits, IntKind.signed, Bool.false_and]
 split
 ·rename_i h; cases h
 ·omega
theorem flat_one {α : Type} (f : α → AV) (h : ∀ x, (f x).cells = [f x]) (l : List α) : flat (l.map f) = l.map f := by
 induction l with
 | nil => rfl
 | cons x l ih => rw [List.map_cons, flat_cons, h, ih]; rfl
theorem get_new (H : AHeap) (o : AObj) : (H ++ [o])[H.length]? = some o := by simp
theorem get_set_self {H : AHeap} {id : Nat} {o : AObj} (o' : AObj) (h : H[id]? = some o) : (H.set id o')[id]? = some o' := by
 rw [List.getElem?_set_self (List.getElem?_eq_some_iff.1 h).1]
theorem get_set_ne {H : AHeap} {id j : Nat} (o' : AObj) (h : id ≠ j) : (H.set id o')[j]? = H[j]? := by rw [List.getElem?_set, if_neg h]
theorem Ext.length {H H' : AHeap} (h : Ext H H') : H.length ≤ H'.length := h.1
theorem Ext.get {H H' : AHeap} (h : Ext H H') {id : Nat} {o : AObj} (ho : H[id]? = some o) : H'[id]? = some o := h.2 id o ho
theorem Free.mono {H0 H H' : AHeap} {tl : Tail} (h : Free H0 H tl) (e : Ext H H') : Free H0 H' tl := by
 rcases h with rfl | ⟨t, rfl, h1, h2⟩
 ·exact .inl rfl
 ·exact .inr ⟨t, rfl, h1, e.2 _ _ h2⟩
theorem shl_u64_1 (a : Int) : shlI .u64 a 1 = some (.int .u64 (IntKind.u64.wrap (a * 2))) := by simp [shlI, IntKind.bits]
theorem shr_u64_1 (a : Int) : shrI .u64 a 1 = some (.int .u64 (a.fdiv 2)) := by simp [shrI, IntKind.bits]
theorem shl_u64_2 (a : Int) : shlI .u64 a 2 = some (.int .u64 (IntKind.u64.wrap (a * 4))) := by simp [shlI, IntKind.bits]
theorem shr_u64_2 (a : Int) : shrI .u64 a 2 = some (.int .u64 (a.fdiv 4)) := by simp [shrI, IntKind.bits]
theorem shl_u64_3 (a : Int) : shlI .u64 a 3 = some (.int .u64 (IntKind.u64.wrap (a * 8))) := by simp [shlI, IntKind.bits]
theorem shr_u64_3 (a : Int) : shrI .u64 a 3 = some (.int .u64 (a.fdiv 8)) := by simp [shrI, IntKind.bits]
theorem shl_u64_4 (a : Int) : shlI .u64 a 4 = some (.int .u64 (IntKind.u64.wrap (a * 16))) := by simp [shlI, IntKind.bits]
theorem shr_u64_4 (a : Int) : shrI .u64 a 4 = some (.int .u64 (a.fdiv 16)) := by simp [shrI, IntKind.bits]
theorem shl_u64_6 (a : Int) : shlI .u64 a 6 = some (.int .u64 (IntKind.u64.wrap (a * 64))) := by simp [shlI, IntKind.bits]
theorem shr_u64_6 (a : Int) : shrI .u64 a 6 = some (.int .u64 (a.fdiv 64)) := by simp [shrI, IntKind.bits]
theorem shl_u64_7 (a : Int) : shlI .u64 a 7 = some (.int .u64 (IntKind.u64.wrap (a * 128))) := by simp [shlI, IntKind.bits]
theorem shr_u64_7 (a : Int) : shrI .u64 a 7 = some (.int .u64 (a.fdiv 128)) := by simp [shrI, IntKind.bits]
theorem shl_u64_8 (a : Int) : shlI .u64 a 8 = some (.int .u64 (IntKind.u64.wrap (a * 256))) := by simp [shlI, IntKind.bits]
theorem shr_u64_8 (a : Int) : shrI .u64 a 8 = some (.int .u64 (a.fdiv 256)) := by simp [shrI, IntKind.bits]
theorem shl_u64_16 (a : Int) : shlI .u64 a 16 = some (.int .u64 (IntKind.u64.wrap (a * 65536))) := by simp [shlI, IntKind.bits]
theorem shr_u64_16 (a : Int) : shrI .u64 a 16 = some (.int .u64 (a.fdiv 65536)) := by simp [shrI, IntKind.bits]
theorem shl_u64_24 (a : Int) : shlI .u64 a 24 = some (.int .u64 (IntKind.u64.wrap (a * 16777216))) := by simp [shlI, IntKind.bits]
theorem shr_u64_24 (a : Int) : shrI .u64 a 24 = some (.int .u64 (a.fdiv 16777216)) := by simp [shrI, IntKind.bits]
theorem shl_u64_32 (a : Int) : shlI .u64 a 32 = some (.int .u64 (IntKind.u64.wrap (a * 4294967296))) := by simp [shlI, IntKind.bits]
theorem shr_u64_32 (a : Int) : shrI .u64 a 32 = some (.int .u64 (a.fdiv 4294967296)) := by simp [shrI, IntKind.bits]
theorem shl_u64_40 (a : Int) : shlI .u64 a 40 = some (.int .u64 (IntKind.u64.wrap (a * 1099511627776))) := by simp [shlI, IntKind.bits]
theorem shr_u64_40 (a : Int) : shrI .u64 a 40 = some (.int .u64 (a.fdiv 1099511627776)) := by simp [shrI, IntKind.bits]
theorem shl_u64_48 (a : Int) : shlI .u64 a 48 = some (.int .u64 (IntKind.u64.wrap (a * 281474976710656))) := by simp [shlI, IntKind.bits]
theorem shr_u64_48 (a : Int) : shrI .u64 a 48 = some (.int .u64 (a.fdiv 281474976710656)) := by simp [shrI, IntKind.bits]
theorem shl_u64_56 (a : Int) : shlI .u64 a 56 = some (.int .u64 (IntKind.u64.wrap (a * 72057594037927936))) := by simp [shlI, IntKind.bits]
theorem shr_u64_56 (a : Int) : shrI .u64 a 56 = some (.int .u64 (a.fdiv 72057594037927936)) := by simp [shrI, IntKind.bits]
theorem shl_u64_63 (a : Int) : shlI .u64 a 63 = some (.int .u64 (IntKind.u64.wrap (a * 9223372036854775808))) := by simp [shlI, IntKind.bits]
theorem shr_u64_63 (a : Int) : shrI .u64 a 63 = some (.int .u64 (a.fdiv 9223372036854775808)) := by simp [shrI, IntKind.bits]
theorem shl_i64_1 (a : Int) : shlI .i64 a 1 = some (.int .i64 (IntKind.i64.wrap (a * 2))) := by simp [shlI, IntKind.bits]
theorem shr_i64_1 (a : Int) : shrI .i64 a 1 = some (.int .i64 (a.fdiv 2)) := by simp [shrI, IntKind.bits]
theorem shl_i64_2 (a : Int) : shlI .i64 a 2 = some (.int .i64 (IntKind.i64.wrap (a * 4))) := by simp [shlI, IntKind.bits]
theorem shr_i64_2 (a : Int) : shrI .i64 a 2 = some (.int .i64 (a.fdiv 4)) := by simp [shrI, IntKind.bits]
theorem shl_i64_3 (a : Int) : shlI .i64 a 3 = some (.int .i64 (IntKind.i64.wrap (a * 8))) := by simp [shlI, IntKind.bits]
theorem shr_i64_3 (a : Int) : shrI .i64 a 3 = some (.int .i64 (a.fdiv 8)) := by simp [shrI, IntKind.bits]
theorem shl_i64_4 (a : Int) : shlI .i64 a 4 = some (.int .i64 (IntKind.i64.wrap (a * 16))) := by simp [shlI, IntKind.bits]
theorem shr_i64_4 (a : Int) : shrI .i64 a 4 = some (.int .i64 (a.fdiv 16)) := by simp [shrI, IntKind.bits]
theorem shl_i64_6 (a : Int) : shlI .i64 a 6 = some (.int .i64 (IntKind.i64.wrap (a * 64))) := by simp [shlI, IntKind.bits]
theorem shr_i64_6 (a : Int) : shrI .i64 a 6 = some (.int .i64 (a.fdiv 64)) := by simp [shrI, IntKind.bits]
theorem shl_i64_7 (a : Int) : shlI .i64 a 7 = some (.int .i64 (IntKind.i64.wrap (a * 128))) := by simp [shlI, IntKind.bits]
theorem shr_i64_7 (a : Int) : shrI .i64 a 7 = some (.int .i64 (a.fdiv 128)) := by simp [shrI, IntKind.bits]
theorem shl_i64_8 (a : Int) : shlI .i64 a 8 = some (.int .i64 (IntKind.i64.wrap (a * 256))) := by simp [shlI, IntKind.bits]
theorem shr_i64_8 (a : Int) : shrI .i64 a 8 = some (.int .i64 (a.fdiv 256)) := by simp [shrI, IntKind.bits]
theorem shl_i64_16 (a : Int) : shlI .i64 a 16 = some (.int .i64 (IntKind.i64.wrap (a * 65536))) := by simp [shlI, IntKind.bits]
theorem shr_i64_16 (a : Int) : shrI .i64 a 16 = some (.int .i64 (a.fdiv 65536)) := by simp [shrI, IntKind.bits]
theorem shl_i64_24 (a : Int) : shlI .i64 a 24 = some (.int .i64 (IntKind.i64.wrap (a * 16777216))) := by simp [shlI, IntKind.bits]
theorem shr_i64_24 (a : Int) : shrI .i64 a 24 = some (.int .i64 (a.fdiv 16777216)) := by simp [shrI, IntKind.bits]
theorem shl_i64_32 (a : Int) : shlI .i64 a 32 = some (.int .i64 (IntKind.i64.wrap (a * 4294967296))) := by simp [shlI, IntKind.bits]
theorem shr_i64_32 (a : Int) : shrI .i64 a 32 = some (.int .i64 (a.fdiv 4294967296)) := by simp [shrI, IntKind.bits]
theorem shl_i64_40 (a : Int) : shlI .i64 a 40 = some (.int .i64 (IntKind.i64.wrap (a * 1099511627776))) := by simp [shlI, IntKind.bits]
theorem shr_i64_40 (a : Int) : shrI .i64 a 40 = some (.int .i64 (a.fdiv 1099511627776)) := by simp [shrI, IntKind.bits]
theorem shl_i64_48 (a : Int) : shlI .i64 a 48 = some (.int .i64 (IntKind.i64.wrap (a * 281474976710656))) := by simp [shlI, IntKind.bits]
theorem shr_i64_48 (a : Int) : shrI .i64 a 48 = some (.int .i64 (a.fdiv 281474976710656)) := by simp [shrI, IntKind.bits]
theorem shl_i64_56 (a : Int) : shlI .i64 a 56 = some (.int .i64 (IntKind.i64.wrap (a * 72057594037927936))) := by simp [shlI, IntKind.bits]
theorem shr_i64_56 (a : Int) : shrI .i64 a 56 = some (.int .i64 (a.fdiv 72057594037927936)) := by simp [shrI, IntKind.bits]
theorem shl_i64_63 (a : Int) : shlI .i64 a 63 = some (.int .i64 (IntKind.i64.wrap (a * 9223372036854775808))) := by simp [shlI, IntKind.bits]
theorem shr_i64_63 (a : Int) : shrI .i64 a 63 = some (.int .i64 (a.fdiv 9223372036854775808)) := by simp [shrI, IntKind.bits]
theorem shl_u8_1 (a : Int) : shlI .u8 a 1 = some (.int .u8 (IntKind.u8.wrap (a * 2))) := by simp [shlI, IntKind.bits]
theorem shr_u8_1 (a : Int) : shrI .u8 a 1 = some (.int .u8 (a.fdiv 2)) := by simp [shrI, IntKind.bits]
theorem shl_u8_2 (a : Int) : shlI .u8 a 2 = some (.int .u8 (IntKind.u8.wrap (a * 4))) := by simp [shlI, IntKind.bits]
theorem shr_u8_2 (a : Int) : shrI .u8 a 2 = some (.int .u8 (a.fdiv 4)) := by simp [shrI, IntKind.bits]
theorem shl_u8_3 (a : Int) : shlI .u8 a 3 = some (.int .u8 (IntKind.u8.wrap (a * 8))) := by simp [shlI, IntKind.bits]
theorem shr_u8_3 (a : Int) : shrI .u8 a 3 = some (.int .u8 (a.fdiv 8)) := by simp [shrI, IntKind.bits]
theorem shl_u8_4 (a : Int) : shlI .u8 a 4 = some (.int .u8 (IntKind.u8.wrap (a * 16))) := by simp [shlI, IntKind.bits]
theorem shr_u8_4 (a : Int) : shrI .u8 a 4 = some (.int .u8 (a.fdiv 16)) := by simp [shrI, IntKind.bits]
theorem shl_u8_6 (a : Int) : shlI .u8 a 6 = some (.int .u8 (IntKind.u8.wrap (a * 64))) := by simp [shlI, IntKind.bits]
theorem shr_u8_6 (a : Int) : shrI .u8 a 6 = some (.int .u8 (a.fdiv 64)) := by simp [shrI, IntKind.bits]
theorem shl_u8_7 (a : Int) : shlI .u8 a 7 = some (.int .u8 (IntKind.u8.wrap (a * 128))) := by simp [shlI, IntKind.bits]
theorem shr_u8_7 (a : Int) : shrI .u8 a 7 = some (.int .u8 (a.fdiv 128)) := by simp [shrI, IntKind.bits]
theorem shl_u8_8 (a : Int) : shlI .u8 a 8 = some (.int .u8 (IntKind.u8.wrap (a * 256))) := by simp [shlI, IntKind.bits]
theorem shr_u8_8 (a : Int) : shrI .u8 a 8 = some (.int .u8 (a.fdiv 256)) := by simp [shrI, IntKind.bits]
theorem shl_u8_16 (a : Int) : shlI .u8 a 16 = some (.int .u8 (IntKind.u8.wrap (a * 256))) := by simp [shlI, IntKind.bits]
theorem shr_u8_16 (a : Int) : shrI .u8 a 16 = some (.int .u8 (a.fdiv 256)) := by simp [shrI, IntKind.bits]
theorem shl_u8_24 (a : Int) : shlI .u8 a 24 = some (.int .u8 (IntKind.u8.wrap (a * 256))) := by simp [shlI, IntKind.bits]
theorem shr_u8_24 (a : Int) : shrI .u8 a 24 = some (.int .u8 (a.fdiv 256)) := by simp [shrI, IntKind.bits]
theorem shl_u8_32 (a : Int) : shlI .u8 a 32 = some (.int .u8 (IntKind.u8.wrap (a * 256))) := by simp [shlI, IntKind.bits]
theorem shr_u8_32 (a : Int) : shrI .u8 a 32 = some (.int .u8 (a.fdiv 256)) := by simp [shrI, IntKind.bits]
theorem shl_u8_40 (a : Int) : shlI .u8 a 40 = some (.int .u8 (IntKind.u8.wrap (a * 256))) := by simp [shlI, IntKind.bits]
theorem shr_u8_40 (a : Int) : shrI .u8 a 40 = some (.int .u8 (a.fdiv 256)) := by simp [shrI, IntKind.bits]
theorem shl_u8_48 (a : Int) : shlI .u8 a 48 = some (.int .u8 (IntKind.u8.wrap (a * 256))) := by simp [shlI, IntKind.bits]
theorem shr_u8_48 (a : Int) : shrI .u8 a 48 = some (.int .u8 (a.fdiv 256)) := by simp [shrI, IntKind.bits]
theorem shl_u8_56 (a : Int) : shlI .u8 a 56 = some (.int .u8 (IntKind.u8.wrap (a * 256))) := by simp [shlI, IntKind.bits]
theorem shr_u8_56 (a : Int) : shrI .u8 a 56 = some (.int .u8 (a.fdiv 256)) := by simp [shrI, IntKind.bits]
theorem shl_u8_63 (a : Int) : shlI .u8 a 63 = some (.int .u8 (IntKind.u8.wrap (a * 256))) := by simp [shlI, IntKind.bits]
theorem shr_u8_63 (a : Int) : shrI .u8 a 63 = some (.int .u8 (a.fdiv 256)) := by simp [shrI, IntKind.bits]
theorem shl_u32_1 (a : Int) : shlI .u32 a 1 = some (.int .u32 (IntKind.u32.wrap (a * 2))) := by simp [shlI, IntKind.bits]
theorem shr_u32_1 (a : Int) : shrI .u32 a 1 = some (.int .u32 (a.fdiv 2)) := by simp [shrI, IntKind.bits]
theorem shl_u32_2 (a : Int) : shlI .u32 a 2 = some (.int .u32 (IntKind.u32.wrap (a * 4))) := by simp [shlI, IntKind.bits]
theorem shr_u32_2 (a : Int) : shrI .u32 a 2 = some (.int .u32 (a.fdiv 4)) := by simp [shrI, IntKind.bits]
theorem shl_u32_3 (a : Int) : shlI .u32 a 3 = some (.int .u32 (IntKind.u32.wrap (a * 8))) := by simp [shlI, IntKind.bits]
theorem shr_u32_3 (a : Int) : shrI .u32 a 3 = some (.int .u32 (a.fdiv 8)) := by simp [shrI, IntKind.bits]
theorem shl_u32_4 (a : Int) : shlI .u32 a 4 = some (.int .u32 (IntKind.u32.wrap (a * 16))) := by simp [shlI, IntKind.bits]
theorem shr_u32_4 (a : Int) : shrI .u32 a 4 = some (.int .u32 (a.fdiv 16)) := by simp [shrI, IntKind.bits]
theorem shl_u32_6 (a : Int) : shlI .u32 a 6 = some (.int .u32 (IntKind.u32.wrap (a * 64))) := by simp [shlI, IntKind.bits]
theorem shr_u32_6 (a : Int) : shrI .u32 a 6 = some (.int .u32 (a.fdiv 64)) := by simp [shrI, IntKind.bits]
theorem shl_u32_7 (a : Int) : shlI .u32 a 7 = some (.int .u32 (IntKind.u32.wrap (a * 128))) := by simp [shlI, IntKind.bits]
theorem shr_u32_7 (a : Int) : shrI .u32 a 7 = some (.int .u32 (a.fdiv 128)) := by simp [shrI, IntKind.bits]
theorem shl_u32_8 (a : Int) : shlI .u32 a 8 = some (.int .u32 (IntKind.u32.wrap (a * 256))) := by simp [shlI, IntKind.bits]
theorem shr_u32_8 (a : Int) : shrI .u32 a 8 = some (.int .u32 (a.fdiv 256)) := by simp [shrI, IntKind.bits]
theorem shl_u32_16 (a : Int) : shlI .u32 a 16 = some (.int .u32 (IntKind.u32.wrap (a * 65536))) := by simp [shlI, IntKind.bits]
theorem shr_u32_16 (a : Int) : shrI .u32 a 16 = some (.int .u32 (a.fdiv 65536)) := by simp [shrI, IntKind.bits]
theorem shl_u32_24 (a : Int) : shlI .u32 a 24 = some (.int .u32 (IntKind.u32.wrap (a * 16777216))) := by simp [shlI, IntKind.bits]
theorem shr_u32_24 (a : Int) : shrI .u32 a 24 = some (.int .u32 (a.fdiv 16777216)) := by simp [shrI, IntKind.bits]
theorem shl_u32_32 (a : Int) : shlI .u32 a 32 = some (.int .u32 (IntKind.u32.wrap (a * 4294967296))) := by simp [shlI, IntKind.bits]
theorem shr_u32_32 (a : Int) : shrI .u32 a 32 = some (.int .u32 (a.fdiv 4294967296)) := by simp [shrI, IntKind.bits]
theorem shl_u32_40 (a : Int) : shlI .u32 a 40 = some (.int .u32 (IntKind.u32.wrap (a * 4294967296))) := by simp [shlI, IntKind.bits]
theorem shr_u32_40 (a : Int) : shrI .u32 a 40 = some (.int .u32 (a.fdiv 4294967296)) := by simp [shrI, IntKind.bits]
theorem shl_u32_48 (a : Int) : shlI .u32 a 48 = some (.int .u32 (IntKind.u32.wrap (a * 4294967296))) := by simp [shlI, IntKind.bits]
theorem shr_u32_48 (a : Int) : shrI .u32 a 48 = some (.int .u32 (a.fdiv 4294967296)) := by simp [shrI, IntKind.bits]
theorem shl_u32_56 (a : Int) : shlI .u32 a 56 = some (.int .u32 (IntKind.u32.wrap (a * 4294967296))) := by simp [shlI, IntKind.bits]
theorem shr_u32_56 (a : Int) : shrI .u32 a 56 = some (.int .u32 (a.fdiv 4294967296)) := by simp [shrI, IntKind.bits]
theorem shl_u32_63 (a : Int) : shlI .u32 a 63 = some (.int .u32 (IntKind.u32.wrap (a * 4294967296))) := by simp [shlI, IntKind.bits]
theorem shr_u32_63 (a : Int) : shrI .u32 a 63 = some (.int .u32 (a.fdiv 4294967296)) := by simp [shrI, IntKind.bits]
theorem shl_i32_1 (a : Int) : shlI .i32 a 1 = some (.int .i32 (IntKind.i32.wrap (a * 2))) := by simp [shlI, IntKind.bits]
theorem shr_i32_1 (a : Int) : shrI .i32 a 1 = some (.int .i32 (a.fdiv 2)) := by simp [shrI, IntKind.bits]
theorem shl_i32_2 (a : Int) : shlI .i32 a 2 = some (.int .i32 (IntKind.i32.wrap (a * 4))) := by simp [shlI, IntKind.bits]
theorem shr_i32_2 (a : Int) : shrI .i32 a 2 = some (.int .i32 (a.fdiv 4)) := by simp [shrI, IntKind.bits]
theorem shl_i32_3 (a : Int) : shlI .i32 a 3 = some (.int .i32 (IntKind.i32.wrap (a * 8))) := by simp [shlI, IntKind.bits]
theorem shr_i32_3 (a : Int) : shrI .i32 a 3 = some (.int .i32 (a.fdiv 8)) := by simp [shrI, IntKind.bits]
theorem shl_i32_4 (a : Int) : shlI .i32 a 4 = some (.int .i32 (IntKind.i32.wrap (a * 16))) := by simp [shlI, IntKind.bits]
theorem shr_i32_4 (a : Int) : shrI .i32 a 4 = some (.int .i32 (a.fdiv 16)) := by simp [shrI, IntKind.bits]
theorem shl_i32_6 (a : Int) : shlI .i32 a 6 = some (.int .i32 (IntKind.i32.wrap (a * 64))) := by simp [shlI, IntKind.bits]
theorem shr_i32_6 (a : Int) : shrI .i32 a 6 = some (.int .i32 (a.fdiv 64)) := by simp [shrI, IntKind.bits]
theorem shl_i32_7 (a : Int) : shlI .i32 a 7 = some (.int .i32 (IntKind.i32.wrap (a * 128))) := by simp [shlI, IntKind.bits]
theorem shr_i32_7 (a : Int) : shrI .i32 a 7 = some (.int .i32 (a.fdiv 128)) := by simp [shrI, IntKind.bits]
theorem shl_i32_8 (a : Int) : shlI .i32 a 8 = some (.int .i32 (IntKind.i32.wrap (a * 256))) := by simp [shlI, IntKind.bits]
theorem shr_i32_8 (a : Int) : shrI .i32 a 8 = some (.int .i32 (a.fdiv 256)) := by simp [shrI, IntKind.bits]
theorem shl_i32_16 (a : Int) : shlI .i32 a 16 = some (.int .i32 (IntKind.i32.wrap (a * 65536))) := by simp [shlI, IntKind.bits]
theorem shr_i32_16 (a : Int) : shrI .i32 a 16 = some (.int .i32 (a.fdiv 65536)) := by simp [shrI, IntKind.bits]
theorem shl_i32_24 (a : Int) : shlI .i32 a 24 = some (.int .i32 (IntKind.i32.wrap (a * 16777216))) := by simp [shlI, IntKind.bits]
theorem shr_i32_24 (a : Int) : shrI .i32 a 24 = some (.int .i32 (a.fdiv 16777216)) := by simp [shrI, IntKind.bits]
theorem shl_i32_32 (a : Int) : shlI .i32 a 32 = some (.int .i32 (IntKind.i32.wrap (a * 4294967296))) := by simp [shlI, IntKind.bits]
theorem shr_i32_32 (a : Int) : shrI .i32 a 32 = some (.int .i32 (a.fdiv 4294967296)) := by simp [shrI, IntKind.bits]
theorem shl_i32_40 (a : Int) : shlI .i32 a 40 = some (.int .i32 (IntKind.i32.wrap (a * 4294967296))) := by simp [shlI, IntKind.bits]
theorem shr_i32_40 (a : Int) : shrI .i32 a 40 = some (.int .i32 (a.fdiv 4294967296)) := by simp [shrI, IntKind.bits]
theorem shl_i32_48 (a : Int) : shlI .i32 a 48 = some (.int .i32 (IntKind.i32.wrap (a * 4294967296))) := by simp [shlI, IntKind.bits]
theorem shr_i32_48 (a : Int) : shrI .i32 a 48 = some (.int .i32 (a.fdiv 4294967296)) := by simp [shrI, IntKind.bits]
theorem shl_i32_56 (a : Int) : shlI .i32 a 56 = some (.int .i32 (IntKind.i32.wrap (a * 4294967296))) := by simp [shlI, IntKind.bits]
theorem shr_i32_56 (a : Int) : shrI .i32 a 56 = some (.int .i32 (a.fdiv 4294967296)) := by simp [shrI, IntKind.bits]
theorem shl_i32_63 (a : Int) : shlI .i32 a 63 = some (.int .i32 (IntKind.i32.wrap (a * 4294967296))) := by simp [shlI, IntKind.bits]
theorem shr_i32_63 (a : Int) : shrI .i32 a 63 = some (.int .i32 (a.fdiv 4294967296)) := by simp [shrI, IntKind.bits]
theorem srcA_dl {P : Program} {s : Nat} {t2 e : TypeId} {i : TyA} {ys : List AV} {tl : Tail} (h : tyA P t2 = some i) (hk : i.kind = .slice e) : srcA P s t2 (.dl s ys tl) = some ys := by
 unfold srcA; rw [h]; simp only [hk, true_or, if_true]
end Go.Av
end

section
set_option linter.unusedSimpArgs false
set_option linter.unusedVariables false
namespace Go.Av
open Go.RowKit
section
variable {P : Program} {B : Nat} {w0 : World} {rd : Option Nat} {a : List AV} {H : AHeap} {μ μ' : Nat → Nat × Nat} {Z Z' : Nat → Nat → Prop} {w w' : World} {n n' : Nat} {E0 : Nat} {ca : Act}

end
end Go.Av
end
