/- walks by hand, part 1 -/
import Derived.Shelf.Sort.Plain
import Derived.Shelf.Slices.In.SortNone
import Derived.Test.YtahhhfgmcdajhaaV1
set_option autoImplicit false
set_option linter.unusedSimpArgs false
set_option linter.unusedVariables false
set_option linter.unnecessarySimpa false
section
set_option linter.unusedSimpArgs false
set_option linter.unusedVariables false
namespace Go.Av
open Go.RowKit
/-! The pool, told by a state: the jobs are in the order of their IDs. -/
structure PTry where
 worker : Int
 tick : Int
 over : Bool
 deriving Inhabited, DecidableEq
structure PAns where
 worker : Int
 try' : Int
 body : List Int
 deriving Inhabited, DecidableEq
structure PJob where
 id : Int
 body : List Int
 tries : List PTry
 ans : Option PAns
 deriving Inhabited, DecidableEq
structure PSt where
 alive : List Bool
 timeout : Int
 tick : Int
 jobs : List PJob
 deriving Inhabited, DecidableEq
def encTry (t : PTry) : AV := .agg [.int .i64 t.worker, .int .i64 t.tick, .bool t.over]
/-- where a job lies: its object, the value of its tries, the object of its answer -/
structure JG where
 jid : Nat
 tv : AV
 rid : Nat
structure PG where
 m : Nat
 av : AV
 js : List JG
 ms : List MA
def ansV (g : JG) (j : PJob) : AV := match j.ans with
 | none => .nilp
 | some _ => .ptr g.rid 0
def ansI (g : JG) (j : PJob) : List Item := match j.ans with
 | none => []
 | some r => [.obj g.rid (.cells [.int .i64 j.id, .int .i64 r.worker, .int .i64 r.try', .dl 1 (List.map (AV.int .u8) r.body) .none])]
def jobC (g : JG) (j : PJob) : List AV := [.int .i64 j.id, .dl 1 (List.map (AV.int .u8) j.body) .none, g.tv, ansV g j]
def jobL (g : JG) (j : PJob) : List Item := .obj g.jid (.cells (jobC g j)) :: .own 3 g.tv (flat (List.map encTry j.tries)) :: ansI g j
def jobsL (gs : List JG) (js : List PJob) : List Item := (List.zipWith jobL gs js).flatten
def keyE (g : JG) (j : PJob) : MA := ([j.id], .ptr g.jid 0)
def poolL (p : Nat) (g : PG) (s : PSt) : List Item :=
 .obj p (.cells [g.av, .int .i64 s.timeout, .int .i64 s.tick, .map (some g.m)]) :: .own 1 g.av (List.map AV.bool s.alive) :: mpI g.m .i g.ms :: jobsL g.js s.jobs
structure PInv (g : PG) (s : PSt) : Prop where
 len : g.js.length = s.jobs.length
 perm : g.ms.Perm (List.zipWith keyE g.js s.jobs)
 sorted : s.jobs.Pairwise (fun a b => a.id < b.id)
 body : ∀ j, j ∈ s.jobs → j.body.length ≤ 65536 ∧ ∀ r, j.ans = some r → r.body.length ≤ 65536
 tries : ∀ j, j ∈ s.jobs → j.tries.length ≤ 5864062014805
 count : s.jobs.length ≤ 1024
def poolI (p : Nat) (g : PG) (s : PSt) : Item := bagI (poolL p g s) (PInv g s)
theorem Facts_pool (H : AHeap) (p : Nat) (g : PG) (s : PSt) (l : List Item) : Facts H (poolI p g s :: l) = Facts H l := Eq.trans rfl rfl

/-! what the operations come to -/
def maxI : Int := 1099511627776
def pFind (s : PSt) (id : Int) : Option PJob := s.jobs.find? (fun j => decide (j.id = id))
def pIns (j : PJob) : List PJob → List PJob
 | [] => [j]
 | a :: l => if j.id < a.id then j :: a :: l else a :: pIns j l
def pNew (w t : Int) : Option PSt × Int :=
 if w < 1 ∨ 64 < w ∨ t < 1 ∨ maxI < t then (none, 1) else (some ⟨List.replicate w.toNat true, t, 0, []⟩, 0)
def pAdd (s : PSt) (id : Int) (body : List Int) : Int × PSt :=
 if id < 0 then (1, s) else if 65536 < body.length ∨ 1024 ≤ s.jobs.length then (4, s) else
 match pFind s id with
 | some _ => (8, s)
 | none => (0, { s with jobs := pIns ⟨id, body, [], none⟩ s.jobs })
def pCheck (s : PSt) (w t : Int) : Int :=
 if ¬ (0 ≤ w ∧ w < s.alive.length) ∨ t < 0 ∨ maxI < t then 1 else if t < s.tick then 20 else 0
def pRun (s : PSt) (tick : Int) (is : PTry → Bool) (j : PJob) : Bool :=
 j.ans.isNone && j.tries.any fun t => !t.over && decide (IntKind.i64.wrap (tick - t.tick) < s.timeout) && is t
/-- a job is changed -/
def pUpd (s : PSt) (id : Int) (f : PJob → PJob) : PSt := { s with jobs := s.jobs.map fun j => if j.id = id then f j else j }
def pAsk (s : PSt) (w t : Int) : Option ((Int × List Int) × Int × Bool × Int × PSt) :=
 if pCheck s w t ≠ 0 then some ((0, []), 0, false, pCheck s w t, s) else
 if rdn s.alive w.toNat = false then some ((0, []), 0, false, 23, s) else
 if s.jobs.any (pRun s t (fun x => decide (x.worker = w))) then some ((0, []), 0, false, 19, s) else
 match s.jobs.find? (fun j => j.ans.isNone && !pRun s t (fun _ => true) j) with
 | none => some ((0, []), 0, false, 0, { s with tick := t })
 | some j => if j.tries.length + 1 ≤ 5864062014805 then some ((j.id, j.body), (j.tries.length : Int), true, 0, pUpd { s with tick := t } j.id (fun j => { j with tries := j.tries ++ [⟨w, t, false⟩] })) else none
def pAnswer (s : PSt) (id w k : Int) (body : List Int) (t : Int) : Bool × Int × PSt :=
 if pCheck s w t ≠ 0 then (false, pCheck s w t, s) else
 match pFind s id with
 | none => (false, 7, s)
 | some j =>
  if k < 0 ∨ (j.tries.length : Int) ≤ k ∨ (rdn j.tries k.toNat).worker ≠ w then (false, 21, s) else
  if 65536 < body.length then (false, 4, s) else
  if j.ans.isSome then (false, 0, { s with tick := t }) else
  (true, 0, pUpd { s with tick := t } id (fun j => { j with ans := some ⟨w, k, body⟩ }))
def pDie (s : PSt) (w t : Int) : Int × PSt :=
 if pCheck s w t ≠ 0 then (pCheck s w t, s) else
 if rdn s.alive w.toNat = false then (24, s) else
 (0, { s with tick := t, alive := s.alive.set w.toNat false, jobs := s.jobs.map fun j => { j with tries := j.tries.map fun x => { x with over := x.over || decide (x.worker = w) } } })
def pRevive (s : PSt) (w : Int) : Int × PSt :=
 if ¬ (0 ≤ w ∧ w < s.alive.length) then (1, s) else
 if rdn s.alive w.toNat = true then (24, s) else (0, { s with alive := s.alive.set w.toNat true })
def pOpen (s : PSt) : List Int := (s.jobs.filter fun j => j.ans.isNone).map (·.id)
def pDone (s : PSt) : List (Int × PAns) := s.jobs.filterMap fun j => j.ans.map fun r => (j.id, r)
end Go.Av
end

section
set_option linter.unusedSimpArgs false
set_option linter.unusedVariables false
set_option linter.unnecessarySimpa false
set_option maxHeartbeats 8000000
set_option maxRecDepth 10000
namespace Go.Av
open Go.RowKit Go.Proofs
section
variable {P : Program} {rd : Option Nat} {Y : Hand} {f g : List AV → AHeap → Prop} {a : List AV} {H : AHeap}
theorem Br.go2 {p : Prop} {f g : List AV → AHeap → Prop} {a : List AV} {H : AHeap} (h1 : (p = True) → f a H) (h2 : (p = False) → g a H) : Br p (later f a H) (later g a H) := ⟨fun h => h1 (eq_true h), fun h => h2 (eq_false h)⟩
theorem branch_go2 {b : Bool} (h1 : b = true → f a H) (h2 : b = false → g a H) : branch (.bool b) f g a H := by
 cases b
 ·rw [branch_false]; exact h2 rfl
 ·rw [branch_true]; exact h1 rfl
theorem RetK.here {K : AV → AHeap → Prop} {v : AV} {H : AHeap} (h : K v H) : RetK K v H := ⟨v, H, rR, WkH.refl H, h⟩
theorem Facts_mp (H : AHeap) (id : Nat) (kk : KK) (ms : List MA) (l : List Item) : Facts H (mpI id kk ms :: l) = Facts H l := Eq.trans rfl rfl
end
theorem PInv.same {g : PG} {s s' : PSt} (h : PInv g s) (e : s'.jobs = s.jobs) : PInv g s' := ⟨by rw [e]; exact h.len, by rw [e]; exact h.perm, by rw [e]; exact h.sorted, by rw [e]; exact h.body, by rw [e]; exact h.tries, by rw [e]; exact h.count⟩
theorem Hv.swap {H : AHeap} {x y : Item} {L : List Item} (h : Hv H (x :: y :: L)) : Hv H (y :: x :: L) := h.perm (.swap _ _ _)
theorem und88 : Try.prog.underlying 88 = some (.map 3 91) := by kernel_rfl
theorem und3 : Try.prog.underlying 3 = some (.int .i64) := by kernel_rfl
theorem tyM91 : tyA Try.prog 91 = some { kind := .ptr, size := 1, bytes := 8, zero := some .nilp } := by kernel_rfl
theorem tyM88 : tyA Try.prog 88 = some { kind := .map 3 91, size := 1, bytes := 8, zero := some (.map none) } := by kernel_rfl
theorem keyI64 {P : Program} {kt : TypeId} (h : P.underlying kt = some (.int .i64)) : KeyLw P kt .i where
 check em L w hl := by
  show (Instr.checkKey em (9999 + 1) kt _).run P w = _
  rw [Instr.checkKey]
  match L, hl with
  | [x], _ => simp [KK.v, run_und h]
 eq L L' w hl hl' := by
  match L, L', hl, hl' with
  | [x], [y], _, _ =>
   show (Op.equalIn (9999 + 1) kt _ _).run P w = _
   rw [Op.equalIn]
   by_cases e : x = y <;> simp [KK.v, run_und h, e]
 stays L := by
  show Instr.sameBits (9999 + 1) _ _ = true
  simp [KK.v, Instr.sameBits]
theorem mt88 : MTy Try.prog 88 .i .nilp := ⟨3, 91, _, _, und88, und3, keyI64 und3, tyM91, rfl⟩
theorem AWP.loopI {P : Program} {B : Nat} {w0 : World} {rd : Option Nat} {c : Code} {Q : Exit → List AV → AHeap → Prop} {a : List AV} {H : AHeap} {σ : Type} (s0 : σ) (sl : σ → List Slot) (J : σ → AHeap → Prop) (m : σ → Nat) (h0 : W2 (sl s0) a a) (hJ : J s0 H)
  (round : ∀ s H', J s H' → AWP P B w0 rd c (thenQ (fun a' H'' => ∃ s', W2 (sl s') a a' ∧ J s' H'' ∧ m s' < m s) Q) (applyS (sl s) a) H') : AWP P B w0 rd (.loop c) Q a H :=
 AWP.loop (fun s => applyS (sl s) a) J m ⟨s0, h0, hJ⟩ (fun s H' h _ => round s H' h)
section
variable {P : Program} {B : Nat} {w0 : World} {Y : Hand} {a : List AV} {H : AHeap} {K : AV → AHeap → Prop}
theorem eop_lookup (t : TypeId) (m k : Operand) (ok : Bool) : eop P B w0 Y a H (.lookup t m k ok) K = MLook P t (ev a m) (ev a k) ok H K := Eq.trans rfl rfl
theorem eop_mapUpdate (t : TypeId) (m k x : Operand) : eop P B w0 Y a H (.mapUpdate t m k x) K = MUpd P t (ev a m) (ev a k) (ev a x) H K := Eq.trans rfl rfl
theorem eop_range (t : TypeId) (m : Operand) : eop P B w0 Y a H (.range t m) K = MRan P t (ev a m) H K := Eq.trans rfl rfl
theorem eop_next (it : Operand) : eop P B w0 Y a H (.next it false) K = MNxt (ev a it) H K := Eq.trans rfl rfl
theorem eop_entry (it : Operand) : eop P B w0 Y a H (.entry it) K = MCur (ev a it) H K := Eq.trans rfl rfl
theorem eop_makeMap (t : TypeId) : eop P B w0 Y a H (.makeMap t none) K = MMake H K := Eq.trans rfl rfl
end
theorem perm_mid {α : Type} {A J X : List α} : (A ++ (J ++ X)).Perm (J ++ (A ++ X)) := by simpa [List.append_assoc] using (List.perm_append_comm (l₁ := A) (l₂ := J)).append_right X
/-! one of the jobs -/
theorem perm_foc {α : Type} : ∀ (l : List (List α)) (i : Nat) (h : i < l.length), l.flatten.Perm (l[i] ++ (l.eraseIdx i).flatten)
 | x :: l, 0, _ => .refl _
 | x :: l, i + 1, h => by
  have ih := perm_foc l i (by simpa using h)
  simp only [List.flatten_cons, List.getElem_cons_succ, List.eraseIdx_cons_succ]
  exact (ih.append_left x).trans (by rw [← List.append_assoc, ← List.append_assoc]; exact List.perm_append_comm.append_right _)
theorem eraseIdx_zipWith {α β γ : Type} (f : α → β → γ) : ∀ (a : List α) (b : List β) (i : Nat), (List.zipWith f a b).eraseIdx i = List.zipWith f (a.eraseIdx i) (b.eraseIdx i)
 | [], b, i => by simp
 | a :: l, [], i => by cases i <;> simp
 | a :: l, b :: l', 0 => by simp
 | a :: l, b :: l', i + 1 => by simp [eraseIdx_zipWith f l l' i]
/-- the other jobs -/
def jrest (gs : List JG) (js : List PJob) (i : Nat) : List Item := jobsL (gs.eraseIdx i) (js.eraseIdx i)
theorem jobs_foc {gs : List JG} {js : List PJob} {i : Nat} (h1 : i < gs.length) (h2 : i < js.length) : (jobsL gs js).Perm (jobL gs[i] js[i] ++ jrest gs js i) := by
 have hz : i < (List.zipWith jobL gs js).length := by rw [List.length_zipWith]; omega
 have := perm_foc (List.zipWith jobL gs js) i hz
 rw [eraseIdx_zipWith, List.getElem_zipWith] at this
 exact this
theorem jobs_unf {gs : List JG} {js : List PJob} {i : Nat} (h1 : i < gs.length) (h2 : i < js.length) (g : JG) (j : PJob) : (jobL g j ++ jrest gs js i).Perm (jobsL (gs.set i g) (js.set i j)) := by
 have := (jobs_foc (gs := gs.set i g) (js := js.set i j) (i := i) (by simpa using h1) (by simpa using h2)).symm
 simpa [jrest, List.eraseIdx_set_eq] using this
theorem Hv.foc {H : AHeap} {A L : List Item} {gs : List JG} {js : List PJob} {i : Nat} (h1 : i < gs.length) (h2 : i < js.length) (h : Hv H (A ++ (jobsL gs js ++ L))) : Hv H (jobL gs[i] js[i] ++ (A ++ (jrest gs js i ++ L))) :=
 h.perm (by
  have h3 := (jobs_foc h1 h2).append_right L
  rw [List.append_assoc] at h3
  exact (h3.append_left A).trans perm_mid)
theorem Hv.unf {H : AHeap} {A L : List Item} {gs : List JG} {js : List PJob} {i : Nat} (h1 : i < gs.length) (h2 : i < js.length) {g : JG} {j : PJob} (h : Hv H (jobL g j ++ (A ++ (jrest gs js i ++ L)))) : Hv H (A ++ (jobsL (gs.set i g) (js.set i j) ++ L)) :=
 h.perm (by
  have h3 := (jobs_unf h1 h2 g j).append_right L
  rw [List.append_assoc] at h3
  exact perm_mid.trans (h3.append_left A))
theorem pCheck_ok {s : PSt} {w t : Int} (h : pCheck s w t = 0) : (0 ≤ w ∧ w < s.alive.length) ∧ 0 ≤ t ∧ t ≤ maxI ∧ s.tick ≤ t := by
 unfold pCheck at h
 split at h
 ·cases h
 ·rename_i h1
  split at h
  ·cases h
  ·rename_i h2
   refine ⟨Classical.byContradiction fun q => h1 (.inl q), by omega, by omega, by omega⟩
theorem ids_inj {js : List PJob} (h : js.Pairwise (fun a b => a.id < b.id)) {i k : Nat} (hi : i < js.length) (hk : k < js.length) (e : js[i].id = js[k].id) : i = k := by
 rcases Nat.lt_trichotomy i k with hlt | heq | hgt
 ·have := List.pairwise_iff_getElem.1 h i k hi hk hlt; omega
 ·exact heq
 ·have := List.pairwise_iff_getElem.1 h k i hk hi hgt; omega
theorem keys_len {gs : List JG} {js : List PJob} (h : gs.length = js.length) : (List.zipWith keyE gs js).length = js.length := by rw [List.length_zipWith, h, Nat.min_self]
theorem PInv.mem {g : PG} {s : PSt} (hI : PInv g s) {e : MA} : e ∈ g.ms ↔ ∃ i, ∃ h1 : i < g.js.length, ∃ h2 : i < s.jobs.length, e = keyE g.js[i] s.jobs[i] := by
 rw [hI.perm.mem_iff, List.mem_iff_getElem]
 constructor
 ·rintro ⟨i, hi, rfl⟩
  have h2 : i < s.jobs.length := by rw [keys_len hI.len] at hi; exact hi
  exact ⟨i, by rw [hI.len]; exact h2, h2, by rw [List.getElem_zipWith]⟩
 ·rintro ⟨i, h1, h2, rfl⟩
  exact ⟨i, by rw [keys_len hI.len]; exact h2, by rw [List.getElem_zipWith]⟩
theorem find_job {js : List PJob} (h : js.Pairwise (fun a b => a.id < b.id)) {i : Nat} (hi : i < js.length) : js.find? (fun j => decide (j.id = js[i].id)) = some js[i] := by
 cases hf : js.find? (fun j => decide (j.id = js[i].id)) with
 | none => have := List.find?_eq_none.1 hf js[i] (List.getElem_mem hi); simp at this
 | some j =>
  have h1 := List.find?_some hf
  obtain ⟨k, hk, rfl⟩ := List.mem_iff_getElem.1 (List.mem_of_find?_eq_some hf)
  have : k = i := ids_inj h hk hi (by simpa using h1)
  subst this; rfl
/-- what a lookup comes to -/
theorem PInv.look {g : PG} {s : PSt} (hI : PInv g s) (id : Int) :
  (∃ i, ∃ h1 : i < g.js.length, ∃ h2 : i < s.jobs.length, s.jobs[i].id = id ∧ pFind s id = some s.jobs[i] ∧ lkA g.ms [id] = some (.ptr g.js[i].jid 0)) ∨ (pFind s id = none ∧ lkA g.ms [id] = none ∧ ∀ j, j ∈ s.jobs → j.id ≠ id) := by
 cases hf : g.ms.find? (fun e => e.1 == [id]) with
 | none =>
  right
  have hn : ∀ j, j ∈ s.jobs → j.id ≠ id := by
   intro j hj e
   obtain ⟨i, hi, rfl⟩ := List.mem_iff_getElem.1 hj
   have h1 : i < g.js.length := by rw [hI.len]; exact hi
   have := List.find?_eq_none.1 hf _ (hI.mem.2 ⟨i, h1, hi, rfl⟩)
   simp [keyE, e] at this
  refine ⟨?_, by unfold lkA; rw [hf]; rfl, hn⟩
  unfold pFind
  rw [List.find?_eq_none]
  intro j hj
  simpa using hn j hj
 | some e =>
  left
  obtain ⟨i, h1, h2, rfl⟩ := hI.mem.1 (List.mem_of_find?_eq_some hf)
  have hid : s.jobs[i].id = id := by have := List.find?_some hf; simpa [keyE] using this
  refine ⟨i, h1, h2, hid, ?_, by unfold lkA; rw [hf]; rfl⟩
  subst hid
  exact find_job hI.sorted h2
theorem pUpd_set {s : PSt} (hs : s.jobs.Pairwise (fun a b => a.id < b.id)) {i : Nat} (hi : i < s.jobs.length) (f : PJob → PJob) : pUpd s s.jobs[i].id f = { s with jobs := s.jobs.set i (f s.jobs[i]) } := by
 unfold pUpd
 congr 1
 refine List.ext_getElem? fun k => ?_
 rw [List.getElem?_map, List.getElem?_set]
 by_cases e : i = k
 ·subst e; simp [hi]
 ·rw [if_neg e]
  cases hk : s.jobs[k]? with
  | none => rfl
  | some j =>
   obtain ⟨hkl, rfl⟩ := List.getElem?_eq_some_iff.1 hk
   have : s.jobs[k].id ≠ s.jobs[i].id := fun q => e (ids_inj hs hi hkl q.symm)
   simp [this]
theorem PInv.set {g : PG} {s : PSt} (hI : PInv g s) {i : Nat} (h1 : i < g.js.length) (h2 : i < s.jobs.length) {g' : JG} {j' : PJob} (hg : g'.jid = g.js[i].jid) (hj : j'.id = s.jobs[i].id) (hb : j'.body.length ≤ 65536 ∧ ∀ r, j'.ans = some r → r.body.length ≤ 65536) (ht : j'.tries.length ≤ 5864062014805) {av : AV} {al : List Bool} {tk : Int} :
  PInv ⟨g.m, av, g.js.set i g', g.ms⟩ ⟨al, s.timeout, tk, s.jobs.set i j'⟩ := by
 have hz : List.zipWith keyE (g.js.set i g') (s.jobs.set i j') = List.zipWith keyE g.js s.jobs := by
  refine List.ext_getElem? fun k => ?_
  rw [List.getElem?_zipWith, List.getElem?_zipWith, List.getElem?_set, List.getElem?_set]
  by_cases e : i = k
  ·subst e
   rw [List.getElem?_eq_getElem h1, List.getElem?_eq_getElem h2]
   simp [h1, h2, keyE, hg, hj]
  ·rw [if_neg e, if_neg e]
 refine ⟨by simpa using hI.len, by simp only [hz]; exact hI.perm, ?_, ?_, ?_, by simpa using hI.count⟩
 ·refine List.pairwise_iff_getElem.2 fun a b ha hb2 hab => ?_
  simp only [List.length_set] at ha hb2
  have h0 := List.pairwise_iff_getElem.1 hI.sorted a b ha hb2 hab
  rw [List.getElem_set, List.getElem_set]
  split <;> split <;> (try subst_vars) <;> (try rw [hj]) <;> first | exact h0 | omega
 ·intro j hm
  rcases List.mem_or_eq_of_mem_set hm with hm | rfl
  ·exact hI.body j hm
  ·exact hb
 ·intro j hm
  rcases List.mem_or_eq_of_mem_set hm with hm | rfl
  ·exact hI.tries j hm
  ·exact ht
theorem Hv.opn1 {H : AHeap} {p : Nat} {g : PG} {s : PSt} {x : Item} {L : List Item} (h : Hv H (poolI p g s :: x :: L)) : PInv g s ∧ Hv H (x :: .obj p (.cells [g.av, .int .i64 s.timeout, .int .i64 s.tick, .map (some g.m)]) :: .own 1 g.av (List.map AV.bool s.alive) :: mpI g.m .i g.ms :: (jobsL g.js s.jobs ++ L)) := by
 obtain ⟨h1, h2⟩ := h.opn
 exact ⟨h1, h2.perm (List.perm_middle (l₁ := poolL p g s))⟩
/-- a focused job (as it is now) goes back; the tick and the living may have changed -/
theorem pool_close {H : AHeap} {p : Nat} {g : PG} {s : PSt} {L : List Item} {i : Nat} (hI : PInv g s) (h1 : i < g.js.length) (h2 : i < s.jobs.length) {g0 g' : JG} {j0 j' : PJob} (e1 : g.js[i] = g0) (e2 : s.jobs[i] = j0) (hg : g'.jid = g0.jid) (hj : j'.id = j0.id) (hb : j'.body.length ≤ 65536 ∧ ∀ r, j'.ans = some r → r.body.length ≤ 65536) (ht : j'.tries.length ≤ 5864062014805) {av : AV} {al : List Bool} {tk : Int}
  (h : Hv H (jobL g' j' ++ ([.obj p (.cells [av, .int .i64 s.timeout, .int .i64 tk, .map (some g.m)]), .own 1 av (List.map AV.bool al), mpI g.m .i g.ms] ++ (jrest g.js s.jobs i ++ L)))) :
  Hv H (poolI p ⟨g.m, av, g.js.set i g', g.ms⟩ ⟨al, s.timeout, tk, s.jobs.set i j'⟩ :: L) := by
 have hq := Hv.unf h1 h2 h
 subst e1; subst e2
 exact Hv.cls (A := poolL p ⟨g.m, av, g.js.set i g', g.ms⟩ ⟨al, s.timeout, tk, s.jobs.set i j'⟩) (hI.set h1 h2 hg hj hb ht) (by simpa only [poolL, List.cons_append, List.nil_append, List.append_assoc] using hq)
/-- the answers' objects, by jobs -/
def aL (gs : List JG) (js : List PJob) : List (Nat × Int × Option PAns) := List.zipWith (fun g j => (g.rid, j.id, j.ans)) gs js
/-- answers that were taken stay where they are -/
def Keeps (g : PG) (s : PSt) (g' : PG) (s' : PSt) : Prop := ∀ a b r, (a, b, some r) ∈ aL g.js s.jobs → (a, b, some r) ∈ aL g'.js s'.jobs
theorem mem_aL {gs : List JG} {js : List PJob} {e : Nat × Int × Option PAns} : e ∈ aL gs js ↔ ∃ i, ∃ h1 : i < gs.length, ∃ h2 : i < js.length, e = (gs[i].rid, js[i].id, js[i].ans) := by
 unfold aL
 rw [List.mem_iff_getElem]
 constructor
 ·rintro ⟨i, hi, rfl⟩
  rw [List.length_zipWith] at hi
  exact ⟨i, by omega, by omega, by rw [List.getElem_zipWith]⟩
 ·rintro ⟨i, h1, h2, rfl⟩
  exact ⟨i, by rw [List.length_zipWith]; omega, by rw [List.getElem_zipWith]⟩
theorem Keeps.same {g : PG} {s s' : PSt} (e : s'.jobs = s.jobs) : Keeps g s g s' := fun a b r h => by rw [e]; exact h
theorem Keeps.map {g : PG} {s s' : PSt} (f : PJob → PJob) (e : s'.jobs = s.jobs.map f) (hf : ∀ j, (f j).id = j.id ∧ (f j).ans = j.ans) : Keeps g s g s' := fun a b r h => by
 obtain ⟨i, h1, h2, q⟩ := mem_aL.1 h
 rw [e]
 exact mem_aL.2 ⟨i, h1, by simpa using h2, by rw [q, List.getElem_map, (hf _).1, (hf _).2]⟩
theorem Keeps.set {g g' : PG} {s s' : PSt} {i : Nat} {G g0 : JG} {J j0 : PJob} (h1 : i < g.js.length) (h2 : i < s.jobs.length) (eg : g.js[i] = g0) (ej : s.jobs[i] = j0) (e1 : g'.js = g.js.set i G) (e2 : s'.jobs = s.jobs.set i J) (hid : J.id = j0.id) (ha : ∀ r, j0.ans = some r → J.ans = some r ∧ G.rid = g0.rid) : Keeps g s g' s' := fun a b r h => by
 obtain ⟨k, k1, k2, q⟩ := mem_aL.1 h
 rw [e1, e2]
 refine mem_aL.2 ⟨k, by simpa using k1, by simpa using k2, ?_⟩
 rw [List.getElem_set, List.getElem_set]
 by_cases c : i = k
 ·subst c
  rw [if_pos rfl, if_pos rfl, hid, ← ej]
  rw [eg, ej] at q
  have q3 : j0.ans = some r := by
   have := congrArg (fun x => x.2.2) q; exact this.symm
  obtain ⟨q4, q5⟩ := ha r q3
  rw [q4, q5, q, ej, q3]
 ·rw [if_neg c, if_neg c]; exact q
theorem set_same {s : PSt} {i : Nat} {j : PJob} (h2 : i < s.jobs.length) (e : s.jobs[i] = j) : s.jobs.set i j = s.jobs := by subst e; simp
theorem lt_cast (n : Nat) : (65536 < n) = ((65536 : Int) < (n : Int)) := propext (by omega)
theorem le_cast (n : Nat) : (1024 ≤ n) = ((1024 : Int) ≤ (n : Int)) := propext (by omega)
theorem szT : SzC 3 encTry := fun _ => rfl
theorem hwT0 (l : List PTry) (i : Nat) (h : i < l.length) : (List.drop (i * 3) (flat (List.map encTry l))).head? = some (.int .i64 (rdn l i).worker) := headW szT l i 0 (by decide) h
theorem hwT1 (l : List PTry) (i : Nat) (h : i < l.length) : (List.drop (i * 3 + 1) (flat (List.map encTry l))).head? = some (.int .i64 (rdn l i).tick) := headW szT l i 1 (by decide) h
theorem hwT2 (l : List PTry) (i : Nat) (h : i < l.length) : (List.drop (i * 3 + 2) (flat (List.map encTry l))).head? = some (.bool (rdn l i).over) := headW szT l i 2 (by decide) h
theorem twT (l : List PTry) (i : Nat) (h : i < l.length) : List.take 3 (List.drop (i * 3) (flat (List.map encTry l))) = [.int .i64 (rdn l i).worker, .int .i64 (rdn l i).tick, .bool (rdn l i).over] := takeW szT l i h
theorem lwT (l : List PTry) (i : Nat) (h : i < l.length) : (3 ≤ (List.drop (i * 3) (flat (List.map encTry l))).length) = True := eq_true (lenW szT l i h)
theorem flT (l : List PTry) : (flat (List.map encTry l)).length = l.length * 3 := SzC.flat szT l
theorem okV_f (v : AV) (b : Bool) : okV false v b = v := rfl
theorem okV_t (v : AV) (b : Bool) : okV true v b = .tup [v, .bool b] := rfl
section
variable {B : Nat} {w0 : World} {n : Nat} {H : AHeap} {L : List Item} {K : AV → AHeap → Prop}
def g10 (n : Nat) (a0 a1 : Int) : Option (Option PSt × Int) := some (pNew a0 a1)
def g12 (n : Nat) (a0 : PSt) (a1 : S1) : Option (Int × PSt) := some (pAdd a0 a1.c0 a1.c1)
def g13 (n : Nat) (a0 : PSt) : Option (List Int) := some (pOpen a0)
def g14 (n : Nat) (a0 : PSt) (a1 a2 : Int) : Option (S1 × Int × Bool × Int × PSt) := (pAsk a0 a1 a2).map fun x => (⟨x.1.1, x.1.2⟩, x.2)
def g15 (n : Nat) (a0 : PSt) (a1 : S2) (a2 : Int) : Option (Bool × Int × PSt) := some (pAnswer a0 a1.c0 a1.c1 a1.c2 a1.c3 a2)
def g24 (n : Nat) (a0 : PSt) (a1 a2 : Int) : Option (Int × PSt) := some (pDie a0 a1 a2)
def g26 (n : Nat) (a0 : PSt) (a1 : Int) : Option (Int × PSt) := some (pRevive a0 a1)
def g28 (n : Nat) (a0 : PSt) : Option (List S2) := some ((pDone a0).map fun x => ⟨x.1, x.2.worker, x.2.try', x.2.body⟩)
def g29 (n : Nat) (a0 : PSt) : Option PSt := if a0.alive.length ≤ 1000 then some a0 else none

theorem c57 {a0 : PSt} {a1 : Int} {g : PG} {p : Nat} (hS : Hv H (poolI p g a0 :: L)) (hK : ∀ H', Hv H' (poolI p g a0 :: L) → K (.bool (decide (0 ≤ a1 ∧ a1 < (a0.alive.length : Int)))) H') : ACall Try.prog B w0 57 [.ptr p 0, .int .i64 a1] H K := by
 refine ACall.ret ?_
 obtain ⟨hI, hS⟩ := hS.opn
 simp only [poolL, List.cons_append] at hS
 refine ACall.enterK Try.f57 Try.func57 (by kernel_rfl) rfl (eawp_sound noY_sound _ _ _ _ ?_)
 have hF := True.intro
 have F := hS.facts
 have h0 := True.intro
 repeat' (first | ((with_reducible refine atEany ?_); first | refine pSeq rfl ?_ | refine pBlk rfl ?_ | refine pLoop rfl ?_ | refine pRange rfl ?_ | refine pDraw rfl ?_) | ((first
  | (clear h0)
  | ((with_reducible refine atGBr ?_); (refine Br.go2 (fun h => ?_) (fun h => ?_)) <;> replace hF := And.intro h hF)
  | ((with_reducible refine atGbr ?_); (refine branch_go2 (fun h => ?_) (fun h => ?_)) <;> replace hF := And.intro h hF)
  | ((with_reducible refine atEany ?_); first | refine pReg rfl ?_ | refine pCond rfl ?_ | refine pRet rfl ?_ | refine pExit rfl ?_ | refine pSkip rfl ?_)
  | ((with_reducible refine atLen ?_); first | refine len_own1 ty86 rfl (enc := AV.bool) (fun _ => rfl) (by (repeat first | exact pH | apply pT); fail_if_success refine ?_) hS ?_ | refine len_v ty86 rfl (by assumption) ?_)
  | ((with_reducible refine atRet ?_); refine RetK.here ?_; have hq := hK H (Hv.cls hI hS); simpa [hF] using hq)) <;> (replace F := hS.facts; (try simp only [Facts_obj, Facts_tl, Facts_own, Facts_pool, Facts_mp] at F); try simp only [EVA, reduceIte, reduceCtorEq, Nat.reduceEqDiff, Nat.reduceLT, Nat.reduceLeDiff, Int.reduceEq, Int.reduceLT, Int.reduceLE, Nat.reduceMul, Int.reduceToNat, Nat.reduceAdd, Int.reduceAdd, Int.reduceSub, Int.reduceMul, Int.reduceNeg, Try.ntmps57, (show Try.f57.results.toList = [.tmp 4] from rfl), (show IntKind.i64.wrap 1 = 1 from rfl), (show IntKind.i64.wrap (-1) = -1 from rfl), hF, F])))
theorem c48 {a0 : PSt} {a1 a2 : Int} {g : PG} {p : Nat} (hS : Hv H (poolI p g a0 :: L)) (hK : ∀ H', Hv H' (poolI p g a0 :: L) → K (.int .i64 (pCheck a0 a1 a2)) H') : ACall Try.prog B w0 48 [.ptr p 0, .int .i64 a1, .int .i64 a2] H K := by
 refine ACall.ret ?_
 refine ACall.enterK Try.f48 Try.func48 (by kernel_rfl) rfl (eawp_sound noY_sound _ _ _ _ ?_)
 have hF := True.intro
 have F := hS.facts
 have h0 := True.intro
 repeat' (first | ((with_reducible refine atEany ?_); first | refine pSeq rfl ?_ | refine pBlk rfl ?_ | refine pLoop rfl ?_ | refine pRange rfl ?_ | refine pDraw rfl ?_) | ((first
  | (clear h0)
  | ((with_reducible refine atGBr ?_); (refine Br.go2 (fun h => ?_) (fun h => ?_)) <;> replace hF := And.intro h hF)
  | ((with_reducible refine atGbr ?_); (refine branch_go2 (fun h => ?_) (fun h => ?_)) <;> replace hF := And.intro h hF)
  | ((with_reducible refine atEany ?_); first | refine pReg rfl ?_ | refine pCond rfl ?_ | refine pRet rfl ?_ | refine pExit rfl ?_ | refine pSkip rfl ?_)
  | ((with_reducible refine atF 57 ?_); refine c57 hS ?_; intro H hS; obtain ⟨hI, hS⟩ := hS.opn; simp only [poolL, List.cons_append] at hS)
  | ((with_reducible refine atRet ?_); refine RetK.here ?_; have hq := hK H (Hv.cls hI hS); simp only [pCheck, maxI] at hq; simpa [hF] using hq)) <;> (replace F := hS.facts; (try simp only [Facts_obj, Facts_tl, Facts_own, Facts_pool, Facts_mp] at F); try simp only [EVA, reduceIte, reduceCtorEq, Nat.reduceEqDiff, Nat.reduceLT, Nat.reduceLeDiff, Int.reduceEq, Int.reduceLT, Int.reduceLE, Nat.reduceMul, Int.reduceToNat, Nat.reduceAdd, Int.reduceAdd, Int.reduceSub, Int.reduceMul, Int.reduceNeg, Try.ntmps48, (show Try.f48.results.toList = [.tmp 6] from rfl), (show IntKind.i64.wrap 1 = 1 from rfl), (show IntKind.i64.wrap (-1) = -1 from rfl), hF, F])))
theorem c26k {a0 : PSt} {a1 : Int} {gha0 : PG} {pa0 : Nat} {r : Int × PSt} (hS : Hv H (poolI pa0 gha0 a0 :: L)) (hg : g26 n a0 a1 = some r) (hK : ∀ (g : PG) (H' : AHeap), Keeps gha0 a0 g r.2 → Hv H' (poolI pa0 g r.2 :: L) → K (.int .i64 r.1) H') : ACall Try.prog B w0 26 [.ptr pa0 0, .int .i64 a1] H K := by
 obtain rfl := Option.some.inj hg
 refine ACall.ret ?_
 refine ACall.enterK Try.f26 Try.func26 (by kernel_rfl) rfl (eawp_sound noY_sound _ _ _ _ ?_)
 have hF := True.intro
 have F := hS.facts
 have h0 := True.intro
 repeat' (first | ((with_reducible refine atEany ?_); first | refine pSeq rfl ?_ | refine pBlk rfl ?_ | refine pLoop rfl ?_ | refine pRange rfl ?_ | refine pDraw rfl ?_) | ((first
  | (clear h0)
  | ((with_reducible refine atGBr ?_); (refine Br.go2 (fun h => ?_) (fun h => ?_)) <;> replace hF := And.intro h hF)
  | ((with_reducible refine atGbr ?_); (refine branch_go2 (fun h => ?_) (fun h => ?_)) <;> replace hF := And.intro h hF)
  | ((with_reducible refine atEany ?_); first | refine pReg rfl ?_ | refine pCond rfl ?_ | refine pRet rfl ?_ | refine pExit rfl ?_ | refine pSkip rfl ?_)
  | ((with_reducible refine atF 57 ?_); refine c57 hS ?_; intro H hS; obtain ⟨hI, hS⟩ := hS.opn; simp only [poolL, List.cons_append] at hS)
  | ((with_reducible refine atIdx (x := gha0.av) ?_); first | (have h9 := split91 (v := gha0.av) (enc := AV.bool) (fun _ => rfl) (by (repeat first | exact pH | apply pT); fail_if_success refine ?_) hS; rcases h9 with ⟨hl, s9, hv⟩ | ⟨_, hv_a, h8⟩; (· exfalso; first | (simp [hl] at hF; done) | (simp [hl] at hF; omega)); replace hS := h8; replace hF := And.intro (ownF hv_a) hF; have hb : (Int.toNat a1 < a0.alive.length) = True := eq_true (by simp at hF; omega); replace hF := And.intro hb hF; refine idx_v1 ty86 rfl ty4 rfl hv_a (by simp at hF ⊢; omega) ?_) | refine idx_v1 ty86 rfl ty4 rfl hv_a (by simp at hF ⊢; omega) ?_)
  | ((with_reducible refine atSto 4 ?_); refine stoL AV.bool ty4 (by (repeat first | exact pH | apply pT); fail_if_success refine ?_) hS rfl (wkD.refl _) (fun _ => rfl) (fun _ => rfl) rfl (by simp at hF ⊢; omega) ?_; intro H hS)
  | ((with_reducible refine atRet ?_); refine RetK.here ?_; clear F; first | (have e : pRevive a0 a1 = (1, a0) := (by simp only [pRevive, hF, not_true_eq_false, not_false_eq_true, if_true, if_false, reduceIte, Bool.false_eq_true]; done); rw [e] at hK; exact hK gha0 H (.same rfl) (Hv.cls hI hS)) | (have e : pRevive a0 a1 = (24, a0) := (by simp only [pRevive, hF, not_true_eq_false, not_false_eq_true, if_true, if_false, reduceIte, Bool.false_eq_true]; done); rw [e] at hK; exact hK gha0 H (.same rfl) (Hv.cls hI (Hv.reown hv_a pH (by simp) hS).swap)) | (have e : pRevive a0 a1 = (0, { a0 with alive := a0.alive.set a1.toNat true }) := (by simp only [pRevive, hF, not_true_eq_false, not_false_eq_true, if_true, if_false, reduceIte, Bool.false_eq_true]; done); rw [e] at hK; exact hK gha0 H (.same rfl) (Hv.cls (A := poolL pa0 gha0 { a0 with alive := a0.alive.set a1.toNat true }) (hI.same rfl) (Hv.reown hv_a pH (by simp) hS).swap)))) <;> (replace F := hS.facts; (try simp only [Facts_obj, Facts_tl, Facts_own, Facts_pool, Facts_mp] at F); try simp only [EVA, reduceIte, reduceCtorEq, Nat.reduceEqDiff, Nat.reduceLT, Nat.reduceLeDiff, Int.reduceEq, Int.reduceLT, Int.reduceLE, Nat.reduceMul, Int.reduceToNat, Nat.reduceAdd, Int.reduceAdd, Int.reduceSub, Int.reduceMul, Int.reduceNeg, Try.ntmps26, (show Try.f26.results.toList = [.tmp 4] from rfl), (show IntKind.i64.wrap 1 = 1 from rfl), (show IntKind.i64.wrap (-1) = -1 from rfl), hF, F])))
theorem c26 {a0 : PSt} {a1 : Int} {gha0 : PG} {pa0 : Nat} {r : Int × PSt} (hS : Hv H (poolI pa0 gha0 a0 :: L)) (hg : g26 n a0 a1 = some r) (hK : ∀ (g : PG) (H' : AHeap), Hv H' (poolI pa0 g r.2 :: L) → K (.int .i64 r.1) H') : ACall Try.prog B w0 26 [.ptr pa0 0, .int .i64 a1] H K := c26k hS hg fun g H' _ h => hK g H' h
theorem c15k {a0 : PSt} {a1 : S2} {a2 : Int} {gha0 : PG} {pa0 : Nat} {r : Bool × Int × PSt} (hS : Hv H (poolI pa0 gha0 a0 :: L)) (hg : g15 n a0 a1 a2 = some r) (hK : ∀ (g : PG) (H' : AHeap), Keeps gha0 a0 g r.2.2 → Hv H' (poolI pa0 g r.2.2 :: L) → K (.tup [.bool r.1, .int .i64 r.2.1]) H') :
  ACall Try.prog B w0 15 [.ptr pa0 0, .agg [.int .i64 a1.c0, .int .i64 a1.c1, .int .i64 a1.c2, .dl 1 (List.map (AV.int .u8) a1.c3) .none], .int .i64 a2] H K := by
 obtain rfl := Option.some.inj hg
 refine ACall.ret ?_
 refine ACall.enterK Try.f15 Try.func15 (by kernel_rfl) rfl (eawp_sound noY_sound _ _ _ _ ?_)
 have hF := True.intro
 have F := hS.facts
 have h0 := True.intro
 repeat' (first | ((with_reducible refine atEany ?_); first | refine pSeq rfl ?_ | refine pBlk rfl ?_ | refine pLoop rfl ?_ | refine pRange rfl ?_ | refine pDraw rfl ?_) | ((first
  | (clear h0)
  | ((with_reducible refine atGBr ?_); (refine Br.go2 (fun h => ?_) (fun h => ?_)) <;> replace hF := And.intro h hF)
  | ((with_reducible refine atGbr ?_); (refine branch_go2 (fun h => ?_) (fun h => ?_)) <;> replace hF := And.intro h hF)
  | ((with_reducible refine atEany ?_); first | refine pReg rfl ?_ | refine pCond rfl ?_ | refine pRet rfl ?_ | refine pExit rfl ?_ | refine pSkip rfl ?_)
  | ((with_reducible refine atBox2 4 ?_); refine box_go rfl hS ?_; intro o4 H hS; simp only [AV.cells] at hS)
  | ((with_reducible refine atF 48 ?_); refine c48 hS.swap ?_; intro H hS; obtain ⟨hI, hS⟩ := hS.opn1)
  | (refine look_mp (kk := .i) (key := [a1.c0]) mt88 (by (repeat first | exact pH | apply pT); fail_if_success refine ?_) hS rfl ?_; have hc := pCheck_ok (s := a0) (w := a1.c1) (t := a2) (by simp only [hF]); rcases hI.look a1.c0 with ⟨i, h1, h2, e1, e2, e3⟩ | ⟨e2, e3, e4⟩ <;> rw [e3] <;> first | (have hbd := hI.body _ (List.getElem_mem h2); have htr := hI.tries _ (List.getElem_mem h2); replace hS := Hv.foc (A := [_, _, _, _]) h1 h2 hS; generalize hgj : gha0.js[i] = gj at *; generalize hjj : a0.jobs[i] = j at *; rcases j with ⟨jid0, jbody, jtries, _ | jr⟩ <;> simp only [jobL, jobC, ansV, ansI, List.cons_append, List.nil_append] at hS) | skip)
  | ((with_reducible refine atLen ?_); first | refine len_own ty92 rfl szT (by decide) (by (repeat first | exact pH | apply pT); fail_if_success refine ?_) hS ?_ | refine len_v ty92 rfl (by assumption) ?_)
  | ((with_reducible refine atIdx (x := gj.tv) ?_); first | (have h9 := split9 (v := gj.tv) (enc := encTry) (sz := 3) szT (by decide) (by (repeat first | exact pH | apply pT); fail_if_success refine ?_) hS; rcases h9 with ⟨hl, s9, hv⟩ | ⟨_, hv_t, h8⟩; (· exfalso; simp [hl] at hF; omega); replace hS := h8; have hb : (Int.toNat a1.c2 < jtries.length) = True := eq_true (by simp at hF; omega); replace hF := And.intro hb (And.intro (ownF hv_t) hF); refine idx_v ty92 rfl ty101 rfl hv_t (by simp at hF ⊢; omega) ?_) | (refine idx_v ty92 rfl ty101 rfl hv_t (by simp at hF ⊢; omega) ?_))
  | ((with_reducible refine atF 46 ?_); refine c46 (n := 0) hS (by simp only [g46]; exact if_pos (by simp at hF ⊢; omega)) ?_; intro tc H hS)
  | ((with_reducible refine atSto 3 ?_); refine sto_go ty3 (by (repeat first | exact pH | apply pT); fail_if_success refine ?_) hS (by rfl) (by rfl) (by exact Nat.le_of_ble_eq_true rfl) ?_; intro H hS; simp only [putA_nil, putA_0, putA_s, List.cons_append, List.nil_append, AV.cells, List.length_cons, List.length_nil, List.drop_succ_cons, List.drop_zero, Nat.reduceAdd] at hS)
  | ((with_reducible refine atSto 28 ?_); refine sto_go ty28 (by (repeat first | exact pH | apply pT); fail_if_success refine ?_) hS (by rfl) (by rfl) (by exact Nat.le_of_ble_eq_true rfl) ?_; intro H hS; simp only [putA_nil, putA_0, putA_s, List.cons_append, List.nil_append, AV.cells, List.length_cons, List.length_nil, List.drop_succ_cons, List.drop_zero, Nat.reduceAdd] at hS)
  | ((with_reducible refine atSto 93 ?_); refine sto_go ty93 (by (repeat first | exact pH | apply pT); fail_if_success refine ?_) hS (by rfl) (by rfl) (by exact Nat.le_of_ble_eq_true rfl) ?_; intro H hS; simp only [putA_nil, putA_0, putA_s, List.cons_append, List.nil_append, AV.cells, List.length_cons, List.length_nil, List.drop_succ_cons, List.drop_zero, Nat.reduceAdd] at hS)
  | ((with_reducible refine atDraw 4 ?_); refine AWP.draw noY_sound [[], [0], [0, 1], [0, 1, 2], [], [4], [0, 1, 2, 3, 4, 5], [0, 1, 2, 3, 4, 5, 6]] [⟨0, false, []⟩, ⟨1, false, []⟩, ⟨2, false, []⟩, ⟨3, false, []⟩, ⟨4, false, []⟩, ⟨5, false, []⟩, ⟨6, true, []⟩, ⟨7, false, []⟩] [0, 1, 2, 3, 4, 5, 6, 7] [0, 1, 2, 3, 4, 5, 6, 7] (by kernel_rfl) ?_)
  | ((with_reducible refine atDraw 7 ?_); refine AWP.draw noY_sound [[], [0], [0, 1], [0, 1, 2], [0, 1, 2, 3], [0, 1, 2, 3, 4], [0, 1, 2, 3], [0, 1, 2, 3, 6], [0, 1, 2, 3, 6, 7], [0, 1, 2, 3, 6, 7, 8], [0, 1, 2, 3, 6, 7, 8, 9], [0, 1, 2, 3, 4, 5, 6, 7, 8, 9, 10], [0, 1, 2, 3, 4, 5, 6, 7, 8, 9, 10, 11], [0, 1, 2, 3, 4, 5, 6, 7, 8, 9, 10, 11, 12], [0, 1, 2, 3, 4, 5, 6, 7, 8, 9, 10, 11, 12, 13], [0, 1, 2, 3, 4, 5, 6, 7, 8, 9, 10, 11, 12, 13, 14], [0, 1, 2, 3, 4, 5, 6, 7, 8, 9, 10, 11, 12, 13, 14, 15], [0, 1, 2, 3, 4, 5, 6, 7, 8, 9, 10, 11, 12, 13, 14, 15, 16], [0, 1, 2, 3, 4, 5, 6, 7, 8, 9, 10, 11, 12, 13], [0, 1, 2, 3, 4, 5, 6, 7, 8, 9, 10, 11, 12, 13, 18], [0, 1, 2, 3, 4, 5, 6, 7, 8, 9, 10, 11, 12, 13, 14, 15, 16, 17, 18, 19], [0, 1, 2, 3, 4, 5, 6, 7, 8, 9, 10, 11, 12, 13, 14, 15, 16, 17, 18, 19, 20], [0, 1, 2, 3, 4, 5, 6, 7, 8, 9, 10, 11, 12, 13, 14, 15, 16, 17, 18, 19, 20, 21], [0, 1, 2, 3, 4, 5, 6, 7, 8, 9, 10, 11, 12, 13], [0, 1, 2, 3, 4, 5, 6, 7, 8, 9, 10, 11, 12, 13, 23], [0, 1, 2, 3, 4, 5, 6, 7, 8, 9, 10, 11, 12, 13, 14, 15, 16, 17, 18, 19, 20, 21, 22, 23, 24], [0, 1, 2, 3, 4, 5, 6, 7, 8, 9, 10, 11, 12, 13, 14, 15, 16, 17, 18, 19, 20, 21, 22, 23, 24, 25], [0, 1, 2, 3, 4, 5, 6, 7, 8, 9, 10, 11, 12, 13, 14, 15, 16, 17, 18, 19, 20, 21, 22, 23, 24, 25, 26]] [⟨0, false, []⟩, ⟨1, false, []⟩, ⟨2, false, []⟩, ⟨3, false, []⟩, ⟨4, false, []⟩, ⟨5, false, []⟩, ⟨6, false, []⟩, ⟨7, false, []⟩, ⟨8, false, []⟩, ⟨9, false, []⟩, ⟨10, false, []⟩, ⟨11, false, []⟩, ⟨12, false, []⟩, ⟨13, false, []⟩, ⟨14, false, []⟩, ⟨15, false, []⟩, ⟨16, false, []⟩, ⟨17, false, []⟩, ⟨18, false, []⟩, ⟨19, false, []⟩, ⟨20, false, []⟩, ⟨21, false, []⟩, ⟨22, false, []⟩, ⟨23, false, []⟩, ⟨24, false, []⟩, ⟨25, false, []⟩, ⟨26, false, []⟩, ⟨27, false, []⟩] [0, 1, 2, 3, 4, 5, 6, 7, 8, 9, 10, 11, 12, 13, 14, 15, 16, 17, 18, 19, 20, 21, 22, 23, 24, 25, 26, 27] [0, 1, 2, 3, 4, 5, 6, 7, 8, 9, 10, 11, 12, 13, 14, 15, 16, 17, 18, 19, 20, 21, 22, 23, 24, 25, 26, 27] (by kernel_rfl) ?_)) <;> (replace F := hS.facts; (try simp only [Facts_obj, Facts_tl, Facts_own, Facts_pool, Facts_mp] at F); try simp only [EVA, reduceIte, reduceCtorEq, Nat.reduceEqDiff, Nat.reduceLT, Nat.reduceLeDiff, Int.reduceEq, Int.reduceLT, Int.reduceLE, Nat.reduceMul, Int.reduceToNat, Nat.reduceAdd, Int.reduceAdd, Int.reduceSub, Int.reduceMul, Int.reduceNeg, Try.ntmps15, (show Try.f15.results.toList = [.tmp 6, .tmp 7] from rfl), (show IntKind.i64.wrap 1 = 1 from rfl), (show IntKind.i64.wrap (-1) = -1 from rfl), hwT0, hwT1, hwT2, twT, lwT, List.length_set, okV_f, okV_t, eop_lookup, eop_mapUpdate, eop_range, eop_next, eop_entry, eop_makeMap, Option.getD_some, Option.getD_none, hF, F])))
 ·have hb2 := hbd
  have e0 := set_same h2 hjj
  try rw [← (show jid0 = a1.c0 from e1)] at hS
  ·refine RetK.go (N := jobL gj ⟨jid0, jbody, jtries, none⟩ ++ ([.obj pa0 (.cells [gha0.av, .int .i64 a0.timeout, .int .i64 a0.tick, .map (some gha0.m)]), .own 1 gha0.av (List.map AV.bool a0.alive), mpI gha0.m .i gha0.ms] ++ (jrest gha0.js a0.jobs i ++ L))) (v' := .tup [.bool false, .int .i64 21]) (fun H' hS => ?_) rR hS (by simp only [jobL, jobC, ansV, ansI, List.cons_append, List.nil_append]; (repeat first | exact nD | (apply nT; (· (repeat first | exact pH | apply pT))) | (apply nW; (· (repeat first | exact pH | apply pT)); (· (repeat first | exact kZ | apply kR | apply kF | apply kN | apply kE | apply kI | apply kI2 | apply kI3 | apply kT | apply kU))) | (apply nV; (· assumption); (· (repeat first | exact pH | apply pT)); (· first | exact flT _ | exact (by simp))) | (apply nO; (· (repeat first | exact pH | apply pT)); (· first | exact flT _ | exact (by simp))) | apply nF | apply nE | apply nX))
   have hq := pool_close hI h1 h2 hgj hjj (g' := gj) (j' := ⟨jid0, jbody, jtries, none⟩) rfl rfl hb2 htr hS
   have e : pAnswer a0 a1.c0 a1.c1 a1.c2 a1.c3 a2 = (false, 21, { a0 with jobs := a0.jobs.set i ⟨jid0, jbody, jtries, none⟩ }) := by
    simp only [pAnswer, lt_cast, e2, hF, ne_eq, not_true_eq_false, not_false_eq_true, if_false, if_true, reduceIte, false_or, or_false, true_or, Option.isSome_none, Option.isSome_some, Bool.false_eq_true]; rw [e0]
   rw [e] at hK
   refine hK _ H' ?_ hq
   exact Keeps.set h1 h2 hgj hjj rfl rfl rfl (by intro r e; first | exact ⟨e, rfl⟩ | cases e)
 ·have hb2 := hbd
  have e0 := set_same h2 hjj
  try rw [← (show jid0 = a1.c0 from e1)] at hS
  ·refine RetK.go (N := jobL gj ⟨jid0, jbody, jtries, none⟩ ++ ([.obj pa0 (.cells [gha0.av, .int .i64 a0.timeout, .int .i64 a0.tick, .map (some gha0.m)]), .own 1 gha0.av (List.map AV.bool a0.alive), mpI gha0.m .i gha0.ms] ++ (jrest gha0.js a0.jobs i ++ L))) (v' := .tup [.bool false, .int .i64 21]) (fun H' hS => ?_) rR hS (by simp only [jobL, jobC, ansV, ansI, List.cons_append, List.nil_append]; (repeat first | exact nD | (apply nT; (· (repeat first | exact pH | apply pT))) | (apply nW; (· (repeat first | exact pH | apply pT)); (· (repeat first | exact kZ | apply kR | apply kF | apply kN | apply kE | apply kI | apply kI2 | apply kI3 | apply kT | apply kU))) | (apply nV; (· assumption); (· (repeat first | exact pH | apply pT)); (· first | exact flT _ | exact (by simp))) | (apply nO; (· (repeat first | exact pH | apply pT)); (· first | exact flT _ | exact (by simp))) | apply nF | apply nE | apply nX))
   have hq := pool_close hI h1 h2 hgj hjj (g' := gj) (j' := ⟨jid0, jbody, jtries, none⟩) rfl rfl hb2 htr hS
   have e : pAnswer a0 a1.c0 a1.c1 a1.c2 a1.c3 a2 = (false, 21, { a0 with jobs := a0.jobs.set i ⟨jid0, jbody, jtries, none⟩ }) := by
    simp only [pAnswer, lt_cast, e2, hF, ne_eq, not_true_eq_false, not_false_eq_true, if_false, if_true, reduceIte, false_or, or_false, true_or, Option.isSome_none, Option.isSome_some, Bool.false_eq_true]; rw [e0]
   rw [e] at hK
   refine hK _ H' ?_ hq
   exact Keeps.set h1 h2 hgj hjj rfl rfl rfl (by intro r e; first | exact ⟨e, rfl⟩ | cases e)
 ·have hb2 := hbd
  have e0 := set_same h2 hjj
  try rw [← (show jid0 = a1.c0 from e1)] at hS
  ·refine RetK.go (N := jobL gj ⟨jid0, jbody, jtries, none⟩ ++ ([.obj pa0 (.cells [gha0.av, .int .i64 a0.timeout, .int .i64 a0.tick, .map (some gha0.m)]), .own 1 gha0.av (List.map AV.bool a0.alive), mpI gha0.m .i gha0.ms] ++ (jrest gha0.js a0.jobs i ++ L))) (v' := .tup [.bool false, .int .i64 4]) (fun H' hS => ?_) rR hS (by simp only [jobL, jobC, ansV, ansI, List.cons_append, List.nil_append]; (repeat first | exact nD | (apply nT; (· (repeat first | exact pH | apply pT))) | (apply nW; (· (repeat first | exact pH | apply pT)); (· (repeat first | exact kZ | apply kR | apply kF | apply kN | apply kE | apply kI | apply kI2 | apply kI3 | apply kT | apply kU))) | (apply nV; (· assumption); (· (repeat first | exact pH | apply pT)); (· first | exact flT _ | exact (by simp))) | (apply nO; (· (repeat first | exact pH | apply pT)); (· first | exact flT _ | exact (by simp))) | apply nF | apply nE | apply nX))
   have hq := pool_close hI h1 h2 hgj hjj (g' := gj) (j' := ⟨jid0, jbody, jtries, none⟩) rfl rfl hb2 htr hS
   have e : pAnswer a0 a1.c0 a1.c1 a1.c2 a1.c3 a2 = (false, 4, { a0 with jobs := a0.jobs.set i ⟨jid0, jbody, jtries, none⟩ }) := by
    simp only [pAnswer, lt_cast, e2, hF, ne_eq, not_true_eq_false, not_false_eq_true, if_false, if_true, reduceIte, false_or, or_false, true_or, Option.isSome_none, Option.isSome_some, Bool.false_eq_true]; rw [e0]
   rw [e] at hK
   refine hK _ H' ?_ hq
   exact Keeps.set h1 h2 hgj hjj rfl rfl rfl (by intro r e; first | exact ⟨e, rfl⟩ | cases e)
 ·have hb2 := (show jbody.length ≤ 65536 ∧ ∀ r, (some ⟨a1.c1, a1.c2, a1.c3⟩ : Option PAns) = some r → r.body.length ≤ 65536 from ⟨hbd.1, fun r e => by obtain rfl := Option.some.inj e; simp at hF ⊢; omega⟩)
  have e0 := set_same h2 hjj
  try rw [← (show jid0 = a1.c0 from e1)] at hS
  ·refine RetK.go (N := jobL ⟨gj.jid, gj.tv, o4⟩ ⟨jid0, jbody, jtries, some ⟨a1.c1, a1.c2, a1.c3⟩⟩ ++ ([.obj pa0 (.cells [gha0.av, .int .i64 a0.timeout, .int .i64 a2, .map (some gha0.m)]), .own 1 gha0.av (List.map AV.bool a0.alive), mpI gha0.m .i gha0.ms] ++ (jrest gha0.js a0.jobs i ++ L))) (v' := .tup [.bool true, .int .i64 0]) (fun H' hS => ?_) rR hS (by simp only [jobL, jobC, ansV, ansI, List.cons_append, List.nil_append]; (repeat first | exact nD | (apply nT; (· (repeat first | exact pH | apply pT))) | (apply nW; (· (repeat first | exact pH | apply pT)); (· (repeat first | exact kZ | apply kR | apply kF | apply kN | apply kE | apply kI | apply kI2 | apply kI3 | apply kT | apply kU))) | (apply nV; (· assumption); (· (repeat first | exact pH | apply pT)); (· first | exact flT _ | exact (by simp))) | (apply nO; (· (repeat first | exact pH | apply pT)); (· first | exact flT _ | exact (by simp))) | apply nF | apply nE | apply nX))
   have hq := pool_close hI h1 h2 hgj hjj (g' := ⟨gj.jid, gj.tv, o4⟩) (j' := ⟨jid0, jbody, jtries, some ⟨a1.c1, a1.c2, a1.c3⟩⟩) rfl rfl hb2 htr hS
   have e : pAnswer a0 a1.c0 a1.c1 a1.c2 a1.c3 a2 = (true, 0, { a0 with tick := a2, jobs := a0.jobs.set i ⟨jid0, jbody, jtries, some ⟨a1.c1, a1.c2, a1.c3⟩⟩ }) := by
    simp only [pAnswer, lt_cast, e2, hF, ne_eq, not_true_eq_false, not_false_eq_true, if_false, if_true, reduceIte, false_or, or_false, true_or, Option.isSome_none, Option.isSome_some, Bool.false_eq_true]; rw [show a1.c0 = a0.jobs[i].id from by rw [hjj]; exact e1.symm, pUpd_set (s := { a0 with tick := a2 }) hI.sorted h2, hjj]
   rw [e] at hK
   refine hK _ H' ?_ hq
   exact Keeps.set h1 h2 hgj hjj rfl rfl rfl (by intro r e; first | exact ⟨e, rfl⟩ | cases e)
 ·have hb2 := hbd
  have e0 := set_same h2 hjj
  try rw [← (show jid0 = a1.c0 from e1)] at hS
  ·refine RetK.go (N := jobL gj ⟨jid0, jbody, jtries, none⟩ ++ ([.obj pa0 (.cells [gha0.av, .int .i64 a0.timeout, .int .i64 a0.tick, .map (some gha0.m)]), .own 1 gha0.av (List.map AV.bool a0.alive), mpI gha0.m .i gha0.ms] ++ (jrest gha0.js a0.jobs i ++ L))) (v' := .tup [.bool false, .int .i64 21]) (fun H' hS => ?_) rR hS (by simp only [jobL, jobC, ansV, ansI, List.cons_append, List.nil_append]; (repeat first | exact nD | (apply nT; (· (repeat first | exact pH | apply pT))) | (apply nW; (· (repeat first | exact pH | apply pT)); (· (repeat first | exact kZ | apply kR | apply kF | apply kN | apply kE | apply kI | apply kI2 | apply kI3 | apply kT | apply kU))) | (apply nV; (· assumption); (· (repeat first | exact pH | apply pT)); (· first | exact flT _ | exact (by simp))) | (apply nO; (· (repeat first | exact pH | apply pT)); (· first | exact flT _ | exact (by simp))) | apply nF | apply nE | apply nX))
   have hq := pool_close hI h1 h2 hgj hjj (g' := gj) (j' := ⟨jid0, jbody, jtries, none⟩) rfl rfl hb2 htr hS
   have e : pAnswer a0 a1.c0 a1.c1 a1.c2 a1.c3 a2 = (false, 21, { a0 with jobs := a0.jobs.set i ⟨jid0, jbody, jtries, none⟩ }) := by
    simp only [pAnswer, lt_cast, e2, hF, ne_eq, not_true_eq_false, not_false_eq_true, if_false, if_true, reduceIte, false_or, or_false, true_or, Option.isSome_none, Option.isSome_some, Bool.false_eq_true]; rw [e0]
   rw [e] at hK
   refine hK _ H' ?_ hq
   exact Keeps.set h1 h2 hgj hjj rfl rfl rfl (by intro r e; first | exact ⟨e, rfl⟩ | cases e)
 ·have hb2 := hbd
  have e0 := set_same h2 hjj
  try rw [← (show jid0 = a1.c0 from e1)] at hS
  ·refine RetK.go (N := jobL gj ⟨jid0, jbody, jtries, some jr⟩ ++ ([.obj pa0 (.cells [gha0.av, .int .i64 a0.timeout, .int .i64 a0.tick, .map (some gha0.m)]), .own 1 gha0.av (List.map AV.bool a0.alive), mpI gha0.m .i gha0.ms] ++ (jrest gha0.js a0.jobs i ++ L))) (v' := .tup [.bool false, .int .i64 21]) (fun H' hS => ?_) rR hS (by simp only [jobL, jobC, ansV, ansI, List.cons_append, List.nil_append]; (repeat first | exact nD | (apply nT; (· (repeat first | exact pH | apply pT))) | (apply nW; (· (repeat first | exact pH | apply pT)); (· (repeat first | exact kZ | apply kR | apply kF | apply kN | apply kE | apply kI | apply kI2 | apply kI3 | apply kT | apply kU))) | (apply nV; (· assumption); (· (repeat first | exact pH | apply pT)); (· first | exact flT _ | exact (by simp))) | (apply nO; (· (repeat first | exact pH | apply pT)); (· first | exact flT _ | exact (by simp))) | apply nF | apply nE | apply nX))
   have hq := pool_close hI h1 h2 hgj hjj (g' := gj) (j' := ⟨jid0, jbody, jtries, some jr⟩) rfl rfl hb2 htr hS
   have e : pAnswer a0 a1.c0 a1.c1 a1.c2 a1.c3 a2 = (false, 21, { a0 with jobs := a0.jobs.set i ⟨jid0, jbody, jtries, some jr⟩ }) := by
    simp only [pAnswer, lt_cast, e2, hF, ne_eq, not_true_eq_false, not_false_eq_true, if_false, if_true, reduceIte, false_or, or_false, true_or, Option.isSome_none, Option.isSome_some, Bool.false_eq_true]; rw [e0]
   rw [e] at hK
   refine hK _ H' ?_ hq
   exact Keeps.set h1 h2 hgj hjj rfl rfl rfl (by intro r e; first | exact ⟨e, rfl⟩ | cases e)
 ·have hb2 := hbd
  have e0 := set_same h2 hjj
  try rw [← (show jid0 = a1.c0 from e1)] at hS
  ·refine RetK.go (N := jobL gj ⟨jid0, jbody, jtries, some jr⟩ ++ ([.obj pa0 (.cells [gha0.av, .int .i64 a0.timeout, .int .i64 a0.tick, .map (some gha0.m)]), .own 1 gha0.av (List.map AV.bool a0.alive), mpI gha0.m .i gha0.ms] ++ (jrest gha0.js a0.jobs i ++ L))) (v' := .tup [.bool false, .int .i64 21]) (fun H' hS => ?_) rR hS (by simp only [jobL, jobC, ansV, ansI, List.cons_append, List.nil_append]; (repeat first | exact nD | (apply nT; (· (repeat first | exact pH | apply pT))) | (apply nW; (· (repeat first | exact pH | apply pT)); (· (repeat first | exact kZ | apply kR | apply kF | apply kN | apply kE | apply kI | apply kI2 | apply kI3 | apply kT | apply kU))) | (apply nV; (· assumption); (· (repeat first | exact pH | apply pT)); (· first | exact flT _ | exact (by simp))) | (apply nO; (· (repeat first | exact pH | apply pT)); (· first | exact flT _ | exact (by simp))) | apply nF | apply nE | apply nX))
   have hq := pool_close hI h1 h2 hgj hjj (g' := gj) (j' := ⟨jid0, jbody, jtries, some jr⟩) rfl rfl hb2 htr hS
   have e : pAnswer a0 a1.c0 a1.c1 a1.c2 a1.c3 a2 = (false, 21, { a0 with jobs := a0.jobs.set i ⟨jid0, jbody, jtries, some jr⟩ }) := by
    simp only [pAnswer, lt_cast, e2, hF, ne_eq, not_true_eq_false, not_false_eq_true, if_false, if_true, reduceIte, false_or, or_false, true_or, Option.isSome_none, Option.isSome_some, Bool.false_eq_true]; rw [e0]
   rw [e] at hK
   refine hK _ H' ?_ hq
   exact Keeps.set h1 h2 hgj hjj rfl rfl rfl (by intro r e; first | exact ⟨e, rfl⟩ | cases e)
 ·have hb2 := hbd
  have e0 := set_same h2 hjj
  try rw [← (show jid0 = a1.c0 from e1)] at hS
  ·refine RetK.go (N := jobL gj ⟨jid0, jbody, jtries, some jr⟩ ++ ([.obj pa0 (.cells [gha0.av, .int .i64 a0.timeout, .int .i64 a0.tick, .map (some gha0.m)]), .own 1 gha0.av (List.map AV.bool a0.alive), mpI gha0.m .i gha0.ms] ++ (jrest gha0.js a0.jobs i ++ L))) (v' := .tup [.bool false, .int .i64 4]) (fun H' hS => ?_) rR hS (by simp only [jobL, jobC, ansV, ansI, List.cons_append, List.nil_append]; (repeat first | exact nD | (apply nT; (· (repeat first | exact pH | apply pT))) | (apply nW; (· (repeat first | exact pH | apply pT)); (· (repeat first | exact kZ | apply kR | apply kF | apply kN | apply kE | apply kI | apply kI2 | apply kI3 | apply kT | apply kU))) | (apply nV; (· assumption); (· (repeat first | exact pH | apply pT)); (· first | exact flT _ | exact (by simp))) | (apply nO; (· (repeat first | exact pH | apply pT)); (· first | exact flT _ | exact (by simp))) | apply nF | apply nE | apply nX))
   have hq := pool_close hI h1 h2 hgj hjj (g' := gj) (j' := ⟨jid0, jbody, jtries, some jr⟩) rfl rfl hb2 htr hS
   have e : pAnswer a0 a1.c0 a1.c1 a1.c2 a1.c3 a2 = (false, 4, { a0 with jobs := a0.jobs.set i ⟨jid0, jbody, jtries, some jr⟩ }) := by
    simp only [pAnswer, lt_cast, e2, hF, ne_eq, not_true_eq_false, not_false_eq_true, if_false, if_true, reduceIte, false_or, or_false, true_or, Option.isSome_none, Option.isSome_some, Bool.false_eq_true]; rw [e0]
   rw [e] at hK
   refine hK _ H' ?_ hq
   exact Keeps.set h1 h2 hgj hjj rfl rfl rfl (by intro r e; first | exact ⟨e, rfl⟩ | cases e)
 ·have hb2 := hbd
  have e0 := set_same h2 hjj
  try rw [← (show jid0 = a1.c0 from e1)] at hS
  ·refine RetK.go (N := jobL gj ⟨jid0, jbody, jtries, some jr⟩ ++ ([.obj pa0 (.cells [gha0.av, .int .i64 a0.timeout, .int .i64 a2, .map (some gha0.m)]), .own 1 gha0.av (List.map AV.bool a0.alive), mpI gha0.m .i gha0.ms] ++ (jrest gha0.js a0.jobs i ++ L))) (v' := .tup [.bool false, .int .i64 0]) (fun H' hS => ?_) rR hS (by simp only [jobL, jobC, ansV, ansI, List.cons_append, List.nil_append]; (repeat first | exact nD | (apply nT; (· (repeat first | exact pH | apply pT))) | (apply nW; (· (repeat first | exact pH | apply pT)); (· (repeat first | exact kZ | apply kR | apply kF | apply kN | apply kE | apply kI | apply kI2 | apply kI3 | apply kT | apply kU))) | (apply nV; (· assumption); (· (repeat first | exact pH | apply pT)); (· first | exact flT _ | exact (by simp))) | (apply nO; (· (repeat first | exact pH | apply pT)); (· first | exact flT _ | exact (by simp))) | apply nF | apply nE | apply nX))
   have hq := pool_close hI h1 h2 hgj hjj (g' := gj) (j' := ⟨jid0, jbody, jtries, some jr⟩) rfl rfl hb2 htr hS
   have e : pAnswer a0 a1.c0 a1.c1 a1.c2 a1.c3 a2 = (false, 0, { a0 with tick := a2, jobs := a0.jobs.set i ⟨jid0, jbody, jtries, some jr⟩ }) := by
    simp only [pAnswer, lt_cast, e2, hF, ne_eq, not_true_eq_false, not_false_eq_true, if_false, if_true, reduceIte, false_or, or_false, true_or, Option.isSome_none, Option.isSome_some, Bool.false_eq_true]; rw [e0]
   rw [e] at hK
   refine hK _ H' ?_ hq
   exact Keeps.set h1 h2 hgj hjj rfl rfl rfl (by intro r e; first | exact ⟨e, rfl⟩ | cases e)
 ·have hb2 := hbd
  have e0 := set_same h2 hjj
  try rw [← (show jid0 = a1.c0 from e1)] at hS
  ·refine RetK.go (N := jobL gj ⟨jid0, jbody, jtries, some jr⟩ ++ ([.obj pa0 (.cells [gha0.av, .int .i64 a0.timeout, .int .i64 a0.tick, .map (some gha0.m)]), .own 1 gha0.av (List.map AV.bool a0.alive), mpI gha0.m .i gha0.ms] ++ (jrest gha0.js a0.jobs i ++ L))) (v' := .tup [.bool false, .int .i64 21]) (fun H' hS => ?_) rR hS (by simp only [jobL, jobC, ansV, ansI, List.cons_append, List.nil_append]; (repeat first | exact nD | (apply nT; (· (repeat first | exact pH | apply pT))) | (apply nW; (· (repeat first | exact pH | apply pT)); (· (repeat first | exact kZ | apply kR | apply kF | apply kN | apply kE | apply kI | apply kI2 | apply kI3 | apply kT | apply kU))) | (apply nV; (· assumption); (· (repeat first | exact pH | apply pT)); (· first | exact flT _ | exact (by simp))) | (apply nO; (· (repeat first | exact pH | apply pT)); (· first | exact flT _ | exact (by simp))) | apply nF | apply nE | apply nX))
   have hq := pool_close hI h1 h2 hgj hjj (g' := gj) (j' := ⟨jid0, jbody, jtries, some jr⟩) rfl rfl hb2 htr hS
   have e : pAnswer a0 a1.c0 a1.c1 a1.c2 a1.c3 a2 = (false, 21, { a0 with jobs := a0.jobs.set i ⟨jid0, jbody, jtries, some jr⟩ }) := by
    simp only [pAnswer, lt_cast, e2, hF, ne_eq, not_true_eq_false, not_false_eq_true, if_false, if_true, reduceIte, false_or, or_false, true_or, Option.isSome_none, Option.isSome_some, Bool.false_eq_true]; rw [e0]
   rw [e] at hK
   refine hK _ H' ?_ hq
   exact Keeps.set h1 h2 hgj hjj rfl rfl rfl (by intro r e; first | exact ⟨e, rfl⟩ | cases e)
 ·refine RetK.here ?_
  have e : pAnswer a0 a1.c0 a1.c1 a1.c2 a1.c3 a2 = (false, 7, a0) := by simp only [pAnswer, e2, hF, ne_eq, not_true_eq_false, if_false, reduceIte]
  rw [e] at hK
  exact hK gha0 H (.same rfl) (Hv.cls (A := poolL pa0 gha0 a0) hI hS.drop)
 ·refine RetK.here ?_
  have e : pAnswer a0 a1.c0 a1.c1 a1.c2 a1.c3 a2 = (false, pCheck a0 a1.c1 a2, a0) := by simp only [pAnswer, hF, ne_eq, not_false_eq_true, if_true, reduceIte]
  rw [e] at hK
  exact hK gha0 H (.same rfl) (Hv.cls (A := poolL pa0 gha0 a0) hI hS.drop)
theorem c15 {a0 : PSt} {a1 : S2} {a2 : Int} {gha0 : PG} {pa0 : Nat} {r : Bool × Int × PSt} (hS : Hv H (poolI pa0 gha0 a0 :: L)) (hg : g15 n a0 a1 a2 = some r) (hK : ∀ (g : PG) (H' : AHeap), Hv H' (poolI pa0 g r.2.2 :: L) → K (.tup [.bool r.1, .int .i64 r.2.1]) H') :
  ACall Try.prog B w0 15 [.ptr pa0 0, .agg [.int .i64 a1.c0, .int .i64 a1.c1, .int .i64 a1.c2, .dl 1 (List.map (AV.int .u8) a1.c3) .none], .int .i64 a2] H K := c15k hS hg fun g H' _ h => hK g H' h
end
end Go.Av
end
