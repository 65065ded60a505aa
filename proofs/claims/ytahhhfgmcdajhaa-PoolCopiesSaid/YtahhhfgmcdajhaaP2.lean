/- the plain law, part 2 -/
import Derived.Test.YtahhhfgmcdajhaaP1
set_option autoImplicit false
set_option linter.unusedSimpArgs false
set_option linter.unusedVariables false
set_option linter.unnecessarySimpa false
section
set_option linter.unusedSimpArgs false
set_option linter.unusedVariables false
set_option maxHeartbeats 1000000
namespace Go.Av
/-! The pool and its model: what they have in common. -/
def toJ (j : PJob) : S5 := ⟨j.id, j.body, (j.tries.length : Int), j.ans.isSome, (j.ans.map (·.worker)).getD 0, (j.ans.map (·.try')).getD 0, (j.ans.map (·.body)).getD []⟩
def tryS (id : Int) (l : List PTry) : List S7 := l.mapIdx fun k t => ⟨id, (k : Int), t.worker, t.tick, t.over⟩
structure Rel (s : PSt) (m : S9) : Prop where
 al : m.c0 = s.alive
 to : m.c1 = s.timeout
 tick : m.c2 = s.tick
 jobs : m.c3 = s.jobs.map toJ
 tries : ∀ j, j ∈ s.jobs → m.c4.filter (fun t => decide (t.c0 = j.id)) = tryS j.id j.tries
 known : ∀ t, t ∈ m.c4 → ∃ j, j ∈ s.jobs ∧ j.id = t.c0
theorem wrap1 {i : Nat} (h : i < 1000000) : IntKind.i64.wrap ((i : Int) + 1) = ((i + 1 : Nat) : Int) := by rw [wrap_i64 (by omega) (by omega)]; rfl
theorem rdn_get {α : Type} [Inhabited α] {l : List α} {i : Nat} (h : i < l.length) : rdn l i = l[i] := by simp [rdn, h]
/-- the index of a job, or -1 -/
def ixI (js : List PJob) (id : Int) (i : Nat) : Int := match (js.drop i).findIdx? (fun j => decide (j.id = id)) with
 | some k => ((i + k : Nat) : Int)
 | none => -1
theorem l52_ok {n : Nat} {m : S9} {js : List PJob} (hj : m.c3 = js.map toJ) (hl : js.length ≤ 100000) (id : Int) : ∀ (f i : Nat), i ≤ js.length → js.length - i < f → l52_0 n m id f (i : Int) = some (ixI js id i) := by
 intro f
 induction f with
 | zero => intro i _ hf; omega
 | succ f ih =>
  intro i hi hf
  have hlen : m.c3.length = js.length := by rw [hj, List.length_map]
  rw [l52_0]
  by_cases hc : i < js.length
  ·rw [if_pos (by omega), if_pos (by omega), if_pos (by rw [Int.toNat_natCast]; omega), Int.toNat_natCast, rdn_get (by omega)]
   have e : m.c3[i] = toJ js[i] := by simp [hj]
   rw [e]
   unfold ixI
   rw [List.drop_eq_getElem_cons hc, List.findIdx?_cons]
   by_cases q : js[i].id = id
   ·rw [if_pos (by exact q)]; simp [q]
   ·rw [if_neg (by exact q), wrap1 (by omega), ih (i + 1) (by omega) (by omega)]
    unfold ixI
    simp only [q, decide_false, Bool.false_eq_true, if_false]
    cases (js.drop (i + 1)).findIdx? (fun j => decide (j.id = id)) with
    | none => rfl
    | some k => simp; omega
  ·rw [if_neg (by omega)]
   unfold ixI
   rw [List.drop_eq_nil_of_le (by omega)]; rfl
theorem ixI_get {js : List PJob} (hs : js.Pairwise (fun a b => a.id < b.id)) {i : Nat} (h : i < js.length) : ixI js js[i].id 0 = (i : Int) := by
 unfold ixI
 have : (js.drop 0).findIdx? (fun j => decide (j.id = js[i].id)) = some i := by
  rw [List.drop_zero, List.findIdx?_eq_some_iff_getElem]
  refine ⟨h, by simp, fun k hk => ?_⟩
  have := List.pairwise_iff_getElem.1 hs k i (by omega) h hk
  simp; omega
 rw [this]; simp
theorem ixI_none {js : List PJob} {id : Int} (h : ∀ j, j ∈ js → j.id ≠ id) : ixI js id 0 = -1 := by
 unfold ixI
 rw [List.drop_zero, List.findIdx?_eq_none_iff.2 (fun j hj => by simp [h j hj])]
theorem g55_ok {n : Nat} {s : PSt} {m : S9} (h : Rel s m) (w t : Int) : g55 n m w t = some (pCheck s w t) := by
 unfold g55 pCheck maxI
 rw [h.al, h.tick]
 by_cases c1 : w < 0
 ·rw [if_pos c1, if_pos (by left; omega)]
 ·rw [if_neg c1]
  by_cases c2 : (s.alive.length : Int) ≤ w
  ·rw [if_pos c2, if_pos (by left; omega)]
  ·rw [if_neg c2]
   by_cases c3 : t < 0
   ·rw [if_pos c3, if_pos (.inr (.inl c3))]
   ·rw [if_neg c3]
    by_cases c4 : 1099511627776 < t
    ·rw [if_pos c4, if_pos (.inr (.inr c4))]
    ·rw [if_neg c4]
     have hn : ¬ (¬ (0 ≤ w ∧ w < (s.alive.length : Int)) ∨ t < 0 ∨ 1099511627776 < t) := by omega
     rw [if_neg hn]
     by_cases c5 : t < s.tick
     ·rw [if_pos c5, if_pos c5]
     ·rw [if_neg c5, if_neg c5]
theorem g27_ok {n : Nat} {s : PSt} {m : S9} (h : Rel s m) (w : Int) : ∃ m', g27 n m w = some ((pRevive s w).1, m') ∧ Rel (pRevive s w).2 m' := by
 unfold g27 pRevive
 have ha := h.al
 by_cases c1 : w < 0
 ·rw [if_pos c1, if_pos (by omega)]; exact ⟨m, rfl, h⟩
 ·rw [if_neg c1]
  by_cases c2 : (m.c0.length : Int) ≤ w
  ·rw [if_pos c2, if_pos (by rw [← ha]; omega)]; exact ⟨m, rfl, h⟩
  ·rw [if_neg c2, if_pos (by omega), if_pos (by omega)]
   have hn : ¬ ¬ (0 ≤ w ∧ w < (s.alive.length : Int)) := by rw [← ha]; omega
   rw [if_neg hn]
   by_cases c3 : rdn m.c0 w.toNat = true
   ·rw [if_pos c3, if_pos (by rw [← ha]; exact c3)]; exact ⟨m, rfl, h⟩
   ·rw [if_neg c3, if_neg (by rw [← ha]; exact c3)]; exact ⟨_, rfl, ⟨by rw [ha], h.to, h.tick, h.jobs, h.tries, h.known⟩⟩
end Go.Av
end
