/- the layer over the model, part 2 -/
import Derived.Test.YtcgndadlcgnilaaGreatA1
set_option autoImplicit false
set_option linter.unusedSimpArgs false
set_option linter.unusedVariables false
set_option linter.unnecessarySimpa false
section
namespace Go.Av
open Go.RowKit

def ofVal1 : Value → AV
 | .bool b => .bool b
 | .int k n => .int k n
 | .string s => .str s.data.toList
 | .pointer none => .nilp
 | .slice none 0 0 => .dl 0 [] .full
 | .map none => .map none
 | .nilFunc => .nilfn
 | .nilIface => .nilif
 | _ => .undef
def ofVal : Value → AV
 | .agg cs => .agg (cs.toList.map ofVal1)
 | v => ofVal1 v

/-- An operand's value. -/
def ev (a : List AV) : Operand → AV
 | .tmp t => a.getD t .undef
 | .const v => ofVal v
 | .global _ => .undef
 | .func f => .fn (.func f) [] []

def FW (rd : Option Nat) : Fence := { Fence.wide with round := rd }

/-- An activation, and the marks that loops over functions have left. -/
structure AR (E0 : Nat) (μ : Nat → Nat × Nat) (Z : Nat → Nat → Prop) (w : World) (n : Nat) (a : List AV) (ca : Act) : Prop where
 tmps : VRs μ Z w n a ca.tmps
 e0 : E0 ≤ w.heap.size
 marks : ∃ Ds : List Nat, ca.defers = Ds.map (fun D => { target := .collected D, args := #[] }) ∧ Ds.Nodup ∧ ∀ D, D ∈ Ds → E0 ≤ D ∧ w.heap[D]? = some (.deferred (some []))

/-- What is asked where a piece of code ends. -/
def PQ (B : Nat) (w0 : World) (E0 : Nat) (μ : Nat → Nat × Nat) (Z : Nat → Nat → Prop) (H : AHeap) (w : World) (Q : Exit → List AV → AHeap → Prop) : Exit → Act → World → Prop :=
 fun e ca' w' => ∃ μ' Z' a' H', R B w0 μ' Z' H' w' ∧ AR E0 μ' Z' w' H'.length a' ca' ∧ Ev μ Z H w μ' Z' H' w' ∧ Q e a' H'

/-- Weakest preconditions over abstract states. -/
def AWP (P : Program) (B : Nat) (w0 : World) (rd : Option Nat) (c : Code) (Q : Exit → List AV → AHeap → Prop) (a : List AV) (H : AHeap) : Prop :=
 ∀ E0 μ Z w ca, R B w0 μ Z H w → AR E0 μ Z w H.length a ca → (∀ l, rd = some l → l < H.length) →
  c.wpIn (FW (rd.map fun l => (μ l).1)) 0 P (PQ B w0 E0 μ Z H w Q) ca w

/-- A call over abstract states. -/
def ACall (P : Program) (B : Nat) (w0 : World) (f : FuncId) (args : List AV) (H : AHeap) (K : AV → AHeap → Prop) : Prop :=
 (∀ args w, (callFunc f args).run P w = .ok (.enter f args) w) ∧ ∀ μ Z w cargs, R B w0 μ Z H w → VRs μ Z w H.length args cargs →
  CallsIn (FW none) 0 P f cargs w fun e w' => ∃ v cv μ' Z' H', e = .returned cv ∧ R B w0 μ' Z' H' w' ∧ VR μ' Z' w' H'.length v cv ∧ Ev μ Z H w μ' Z' H' w' ∧ K v H'

def thenQ (next : List AV → AHeap → Prop) (Q : Exit → List AV → AHeap → Prop) : Exit → List AV → AHeap → Prop
 | .normal, a, H => next a H
 | e, a, H => Q e a H

def blockQ (id : Nat) (Q : Exit → List AV → AHeap → Prop) : Exit → List AV → AHeap → Prop
 | .exit id', a, H => if id' = id then Q .normal a H else Q (.exit id') a H
 | e, a, H => Q e a H

section
variable {P : Program} {B : Nat} {w0 : World} {rd : Option Nat} {Q Q' : Exit → List AV → AHeap → Prop} {a : List AV} {H : AHeap}
variable {μ μ' : Nat → Nat × Nat} {Z Z' : Nat → Nat → Prop} {H' : AHeap} {w w' : World} {n : Nat} {E0 : Nat} {ca : Act}

theorem VR.ofVal1 (v : Value) : VR μ Z w n (ofVal1 v) v := by
 unfold Av.ofVal1
 split
 ·exact .bool _
 ·exact .int _ _
 ·rename_i s; obtain ⟨⟨l⟩⟩ := s; exact .str l
 ·exact .nilp
 ·exact .dl0 _ _ _ _ (fun _ => rfl) (by simp)
 ·exact .nilm
 ·exact .nilfn
 ·exact .nilif
 ·exact .undef _

theorem VR.ofVal (v : Value) : VR μ Z w n (Av.ofVal v) v := by
 unfold Av.ofVal
 split
 ·rename_i cs
  refine .agg _ _ (by simp) (fun j => cs.getD j default) ?_ ?_
  ·intro j v hj
   have hl : j < cs.size := by have := (List.getElem?_eq_some_iff.1 hj).1; simpa using this
   simp [Array.getD, hl]
  ·intro j v hj
   have hl : j < cs.size := by have := (List.getElem?_eq_some_iff.1 hj).1; simpa using this
   simp [hl] at hj
   subst hj
   simp only [Array.getD, hl]
   exact VR.ofVal1 _
 ·exact VR.ofVal1 _

theorem AR.ev (h : AR E0 μ Z w n a ca) (x : Operand) : VR μ Z w n (ev a x) (ca.eval x) := by
 cases x with
 | tmp t =>
  simp only [Av.ev, Act.eval, List.getD]
  cases ht : a[t]? with
  | none => exact .undef _
  | some v =>
   obtain ⟨v', h1, h2⟩ := h.tmps.2 t v ht
   simp only [Option.getD_some]
   rw [Array.getD_eq_getD_getElem?, h1]
   exact h2
 | const v => exact VR.ofVal v
 | global g => exact .undef _
 | func f => exact .fn f [] [] #[] #[] rfl rfl (fun _ => default) (fun _ => default) (by simp) (by simp) (by simp) (by simp)

theorem AR.step (h : AR E0 μ Z w H.length a ca) (e : Ev μ Z H w μ' Z' H' w') (hm : ∀ D, E0 ≤ D → w.heap[D]? = some (.deferred (some [])) → w'.heap[D]? = some (.deferred (some []))) : AR E0 μ' Z' w' H'.length a ca :=
 ⟨h.tmps.ev e, Nat.le_trans h.e0 e.size, let ⟨Ds, h1, h2, h3⟩ := h.marks; ⟨Ds, h1, h2, fun D hD => ⟨(h3 D hD).1, hm D (h3 D hD).1 (h3 D hD).2⟩⟩⟩

/-- A block that holds deferred calls is nobody's. -/
theorem R.unowned (h : R B w0 μ Z H w) {c : Nat} {ds : Option (List Deferred)} (hc : w.heap[c]? = some (.deferred ds)) : ∀ id o, H[id]? = some o → o.alive = true → (μ id).1 ≠ c := by
 intro id o hid ha e
 have ho := h.obj id o hid
 subst e
 cases o with
 | dead => cases ha
 | cells cs => obtain ⟨_, _, ccs, e, fr, h1, _⟩ := ho; rw [h1] at hc; cases hc
 | tok => obtain ⟨_, _, ccs, e, fr, h1, _⟩ := ho; rw [h1] at hc; cases hc
 | map es => obtain ⟨_, mes, clock, h1, _⟩ := ho; rw [h1] at hc; cases hc
 | loop => obtain ⟨_, r, h1, _⟩ := ho; rw [h1] at hc; cases hc

theorem AR.evolve (h : AR E0 μ Z w H.length a ca) (hR : R B w0 μ Z H w) (e : Ev μ Z H w μ' Z' H' w') : AR E0 μ' Z' w' H'.length a ca :=
 h.step e fun D _ hD => by
  have hlt : D < w.heap.size := by
   rcases Nat.lt_or_ge D w.heap.size with h1 | h1
   ·exact h1
   ·rw [Array.getElem?_eq_none h1] at hD; cases hD
  rw [e.frame D hlt (hR.unowned hD)]; exact hD

theorem AWP.mono {c : Code} (h : AWP P B w0 rd c Q a H) (hq : ∀ e a H, Q e a H → Q' e a H) : AWP P B w0 rd c Q' a H :=
 fun E0 μ Z w ca h1 h2 h3 => wpIn_mono (h E0 μ Z w ca h1 h2 h3) fun _ _ _ ⟨μ', Z', a', H', k1, k2, k3, k4⟩ => ⟨μ', Z', a', H', k1, k2, k3, hq _ _ _ k4⟩

theorem PQ.here (h1 : R B w0 μ Z H w) (h2 : AR E0 μ Z w H.length a ca) {e : Exit} (hq : Q e a H) : PQ B w0 E0 μ Z H w Q e ca w :=
 ⟨μ, Z, a, H, h1, h2, Ev.refl μ Z H w, hq⟩

theorem AWP.skip (h : Q .normal a H) : AWP P B w0 rd .skip Q a H := fun _ _ _ _ _ h1 h2 _ => wpIn_skip (PQ.here h1 h2 h)
theorem AWP.exit {id : Nat} (h : Q (.exit id) a H) : AWP P B w0 rd (.exit id) Q a H := fun _ _ _ _ _ h1 h2 _ => wpIn_exit (PQ.here h1 h2 h)
theorem AWP.ret (h : Q .ret a H) : AWP P B w0 rd .ret Q a H := fun _ _ _ _ _ h1 h2 _ => wpIn_ret (PQ.here h1 h2 h)

theorem rd_same {μ μ' : Nat → Nat × Nat} (h3 : ∀ l, rd = some l → l < H.length) (e : ∀ i, i < H.length → μ' i = μ i) : (rd.map fun l => (μ' l).1) = rd.map fun l => (μ l).1 := by
 cases rd with
 | none => rfl
 | some l => simp [e l (h3 l rfl)]

theorem AWP.seq {x y : Code} (h : AWP P B w0 rd x (thenQ (AWP P B w0 rd y Q) Q) a H) : AWP P B w0 rd (.seq x y) Q a H := by
 intro E0 μ Z w ca h1 h2 h3
 refine wpIn_seq (wpIn_mono (h E0 μ Z w ca h1 h2 h3) ?_)
 rintro e ca' w' ⟨μ', Z', a', H', k1, k2, k3, k4⟩
 cases e with
 | normal =>
  have := k4 E0 μ' Z' w' ca' k1 k2 (fun l hl => Nat.lt_of_lt_of_le (h3 l hl) k3.len)
  rw [rd_same h3 k3.mu] at this
  refine wpIn_mono this ?_
  rintro e ca'' w'' ⟨μ'', Z'', a'', H'', j1, j2, j3, j4⟩
  exact ⟨μ'', Z'', a'', H'', j1, j2, k3.trans j3, j4⟩
 | _ => exact ⟨μ', Z', a', H', k1, k2, k3, k4⟩

theorem AWP.cond {c : Operand} {x y : Code} {t : Bool} (hc : ev a c = .bool t) (h1 : t = true → AWP P B w0 rd x Q a H) (h2 : t = false → AWP P B w0 rd y Q a H) :
  AWP P B w0 rd (.cond c x y) Q a H := by
 intro E0 μ Z w ca k1 k2 k3
 have hv := k2.ev c
 rw [hc] at hv
 have hcc : ca.eval c = .bool t := by generalize ca.eval c = z at hv; cases hv; rfl
 refine wpIn_cond_split hcc (fun e => h1 e E0 μ Z w ca k1 k2 k3) (fun e => h2 e E0 μ Z w ca k1 k2 k3)

theorem AWP.block {id : Nat} {c : Code} (h : AWP P B w0 rd c (blockQ id Q) a H) : AWP P B w0 rd (.block id c) Q a H := by
 intro E0 μ Z w ca h1 h2 h3
 refine wpIn_block (wpIn_mono (h E0 μ Z w ca h1 h2 h3) ?_)
 rintro e ca' w' ⟨μ', Z', a', H', k1, k2, k3, k4⟩
 cases e with
 | exit id' =>
  simp only [Exit.inBlock]
  simp only [blockQ] at k4
  split
  ·rename_i he; rw [if_pos he] at k4; exact ⟨μ', Z', a', H', k1, k2, k3, k4⟩
  ·rename_i he; rw [if_neg he] at k4; exact ⟨μ', Z', a', H', k1, k2, k3, k4⟩
 | _ => exact ⟨μ', Z', a', H', k1, k2, k3, k4⟩

/-- What may be said of a value in place of what is known. -/
def wkV (x y : AV) : Prop := x = .undef ∨ x = y ∨ ∃ s s' es tl tl', x = .dl s es tl ∧ y = .dl s' es tl' ∧ (tl = tl' ∨ tl = .none) ∧ (s = s' ∨ (es = [] ∧ ∀ t, tl ≠ .tok t))

theorem VR.weak {x y : AV} {cv : Value} (h : VR μ Z w n y cv) (k : wkV x y) : VR μ Z w n x cv := by
 rcases k with rfl | rfl | ⟨s, s', es, tl, tl', rfl, rfl, h1, h2⟩
 ·exact .undef _
 ·exact h
 ·rcases h2 with rfl | ⟨rfl, h2⟩
  ·cases h with
   | dl0 _ _ a cap q1 q2 =>
    rcases h1 with rfl | rfl
    ·exact .dl0 _ _ a cap q1 q2
    ·exact .dl0 _ _ a cap (fun e => by cases e) (fun t e => by cases e)
   | dl _ _ _ c o cap f q1 q2 q3 q4 q5 q6 q7 =>
    rcases h1 with rfl | rfl
    ·exact .dl _ _ _ c o cap f q1 q2 q3 q4 q5 q6 q7
    ·exact .dl _ _ _ c o cap f q1 q2 q3 q4 q5 q6 trivial
  ·cases h with
   | dl0 _ _ a cap q1 q2 => exact .dl0 _ _ a cap (fun e => by rcases h1 with rfl | rfl <;> first | exact q1 e | cases e) h2
   | dl _ _ _ c o cap f q1 q2 q3 q4 q5 q6 q7 =>
    refine .dl0 _ _ _ cap (fun e => ?_) h2
    rcases h1 with rfl | rfl
    ·subst e; exact q7
    ·cases e

/-- Places that nobody asks again may be forgotten. -/
def Wk : List AV → List AV → Prop
 | [], [] => True
 | x :: l, y :: l' => wkV x y ∧ Wk l l'
 | _, _ => False

theorem Wk.spec : ∀ {l l' : List AV}, Wk l l' → l.length = l'.length ∧ ∀ (j : Nat) (v : AV), l[j]? = some v → ∃ v', l'[j]? = some v' ∧ wkV v v'
 | [], [], _ => ⟨rfl, fun j v h => by simp at h⟩
 | x :: l, y :: l', h => by
  obtain ⟨h1, h2⟩ := h
  obtain ⟨k1, k2⟩ := Wk.spec h2
  refine ⟨by simp [k1], fun j v hj => ?_⟩
  cases j with
  | zero =>
   simp at hj ⊢
   subst hj
   exact h1
  | succ j => simpa using k2 j v (by simpa using hj)
 | [], _ :: _, h => h.elim
 | _ :: _, [], h => h.elim

theorem Wk.refl : ∀ (l : List AV), Wk l l
 | [] => trivial
 | _ :: l => ⟨.inr (.inl rfl), Wk.refl l⟩

/-- What may be said of a slice in place of what is known, its elements too. -/
def wkD (x y : AV) : Prop := wkV x y ∨ ∃ sz es es' tl, x = .dl sz es tl ∧ y = .dl sz es' tl ∧ es.length = es'.length ∧ (∀ e, e ∈ es → e.cells.length = sz) ∧ Wk (flat es) (flat es')
theorem wkD.refl (x : AV) : wkD x x := .inl (.inr (.inl rfl))
theorem VR.weakD {x y : AV} {cv : Value} (h : VR μ Z w n y cv) (k : wkD x y) : VR μ Z w n x cv := by
 rcases k with k | ⟨sz, es, es', tl, rfl, rfl, hl, hs, hw⟩
 ·exact h.weak k
 ·obtain ⟨k1, k2⟩ := hw.spec
  cases h with
  | dl0 _ _ a cap q1 q2 =>
   have : es = [] := List.length_eq_zero_iff.1 (by simpa using hl)
   subst this
   exact .dl0 _ _ a cap q1 q2
  | dl _ _ _ c o cap f q1 q2 q3 q4 q5 q6 q7 =>
   rw [← hl] at q2 q7 ⊢
   refine .dl _ _ _ c o cap f hs q2 (fun j v hj => ?_) (fun j hj => q4 j (by omega)) (fun j v hj => ?_) (fun j hj => q6 j (by omega)) q7
   ·obtain ⟨v', p1, _⟩ := k2 j v hj
    exact q3 j v' p1
   ·obtain ⟨v', p1, p2⟩ := k2 j v hj
    exact (q5 j v' p1).weak p2

theorem VRs.weak {l l' : List AV} {vs : Array Value} (h : VRs μ Z w n l' vs) (k : Wk l l') : VRs μ Z w n l vs := by
 obtain ⟨k1, k2⟩ := k.spec
 refine ⟨k1.trans h.1, fun j v hj => ?_⟩
 obtain ⟨v', q1, q2⟩ := k2 j v hj
 obtain ⟨cv, q3, q4⟩ := h.2 j v' q1
 exact ⟨cv, q3, q4.weak q2⟩

theorem AR.weak {a' : List AV} (h : AR E0 μ Z w n a ca) (k : Wk a' a) : AR E0 μ Z w n a' ca := ⟨h.tmps.weak k, h.e0, h.marks⟩

theorem AWP.weak {a' : List AV} {c : Code} (h : AWP P B w0 rd c Q a' H) (k : Wk a' a) : AWP P B w0 rd c Q a H :=
 fun E0 μ Z w ca h1 h2 h3 => h E0 μ Z w ca h1 (h2.weak k) h3

/-- A loop: σ is what its rounds go over, env the activation, I what holds of the heap. -/
theorem AWP.loop {σ : Type} {c : Code} (env : σ → List AV) (I : σ → AHeap → Prop) (m : σ → Nat)
  (h0 : ∃ s, Wk (env s) a ∧ I s H)
  (round : ∀ s H', I s H' → H.length ≤ H'.length → AWP P B w0 rd c (thenQ (fun a' H'' => ∃ s', Wk (env s') a' ∧ I s' H'' ∧ m s' < m s) Q) (env s) H') : AWP P B w0 rd (.loop c) Q a H := by
 intro E0 μ Z w ca h1 h2 h3
 obtain ⟨s0, hs0, hI0⟩ := h0
 -- the relation carries a ghost: the state's measure is read off the frame's ghost by choice
 let Inv : Act → World → Nat → Prop := fun ca' w' j => ∃ s μ' Z' H', m s = j ∧ I s H' ∧ R B w0 μ' Z' H' w' ∧ AR E0 μ' Z' w' H'.length (env s) ca' ∧ Ev μ Z H w μ' Z' H' w'
 have key : ∀ j (b : Frame) (k : List Item) (cs : List Frame) (ca' : Act) (w' : World), Inv ca' w' j → b.roundOf = (FW (rd.map fun l => (μ l).1)).round → (FW (rd.map fun l => (μ l).1)).fn b.fn → (FW (rd.map fun l => (μ l).1)).room (cs.length + 1 + 0) →
   ∃ e a' w'', PQ B w0 E0 μ Z H w Q e a' w'' ∧ ArrivesIn (Machine.fenced P (FW (rd.map fun l => (μ l).1))) P (lone (b.atR ca' (.code c :: .inLoop c :: k)) cs w') b k cs e a' w'' := by
  intro j
  induction j using Nat.strongRecOn with
  | _ j ih =>
   intro b k cs ca' w' hI hro hb hr
   obtain ⟨s, μ', Z', H', hm, hIs, hR, hA, hE⟩ := hI
   have hrd := rd_same h3 hE.mu
   have hround := round s H' hIs hE.len E0 μ' Z' w' ca' hR hA (fun l hl => Nat.lt_of_lt_of_le (h3 l hl) hE.len)
   rw [hrd] at hround
   obtain ⟨e, ca₁, w₁, hq, harr⟩ := hround b (.inLoop c :: k) cs hro hb hr
   obtain ⟨μ₁, Z₁, a₁, H₁, k1, k2, k3, k4⟩ := hq
   cases e with
   | normal =>
    obtain ⟨s', hw', hI', hlt⟩ := k4
    obtain ⟨e₂, a₂, w₂, hq₂, harr₂⟩ := ih (m s') (hm ▸ hlt) b k cs ca₁ w₁ ⟨s', μ₁, Z₁, H₁, rfl, hI', k1, k2.weak hw', hE.trans k3⟩ hro hb hr
    exact ⟨e₂, a₂, w₂, hq₂, .of_steps (StepsIn.trans harr (.one (fenced_calm hb hr rfl) stepR_inLoop)) harr₂⟩
   | exit id => exact ⟨_, ca₁, w₁, ⟨μ₁, Z₁, a₁, H₁, k1, k2, hE.trans k3, k4⟩, .pass (x := .inLoop c) rfl (fun _ _ => .inl (by simp)) harr⟩
   | goto l => exact ⟨_, ca₁, w₁, ⟨μ₁, Z₁, a₁, H₁, k1, k2, hE.trans k3, k4⟩, .pass (x := .inLoop c) rfl (fun _ _ => .inl (by simp)) harr⟩
   | ret => exact ⟨_, ca₁, w₁, ⟨μ₁, Z₁, a₁, H₁, k1, k2, hE.trans k3, k4⟩, .pass (x := .inLoop c) rfl (fun _ _ => .inl (by simp)) harr⟩
   | panic ch => exact ⟨_, ca₁, w₁, ⟨μ₁, Z₁, a₁, H₁, k1, k2, hE.trans k3, k4⟩, .pass (x := .inLoop c) rfl (fun _ _ => .inl (by simp)) harr⟩
   | outgrown => exact ⟨_, ca₁, w₁, ⟨μ₁, Z₁, a₁, H₁, k1, k2, hE.trans k3, k4⟩, .pass (x := .inLoop c) rfl (fun _ _ => .inl (by simp)) harr⟩
 intro b k cs hro hb hr
 obtain ⟨e, a', w', hq, harr⟩ := key _ b k cs ca w ⟨s0, μ, Z, H, rfl, hI0, h1, h2.weak hs0, Ev.refl μ Z H w⟩ hro hb hr
 exact ⟨e, a', w', hq, .of_steps (.one (fenced_calm hb hr rfl) stepR_loop) harr⟩

/-- Where two ways meet again. -/
theorem AWP.cut {x y : Code} (Mid : List AV → AHeap → Prop) (h1 : AWP P B w0 rd x (thenQ (fun a' H' => ∃ a2, Wk a2 a' ∧ Mid a2 H') Q) a H) (h2 : ∀ a' H', H.length ≤ H'.length → Mid a' H' → AWP P B w0 rd y Q a' H') : AWP P B w0 rd (.seq x y) Q a H := by
 refine AWP.seq ?_
 intro E0 μ Z w ca k1 k2 k3
 refine wpIn_mono (h1 E0 μ Z w ca k1 k2 k3) ?_
 rintro e ca' w' ⟨μ', Z', a', H', j1, j2, j3, j4⟩
 refine ⟨μ', Z', a', H', j1, j2, j3, ?_⟩
 cases e with
 | normal => obtain ⟨a2, hw, hm⟩ := j4; exact (h2 a2 H' j3.len hm).weak hw
 | _ => exact j4
end
end Go.Av
end
