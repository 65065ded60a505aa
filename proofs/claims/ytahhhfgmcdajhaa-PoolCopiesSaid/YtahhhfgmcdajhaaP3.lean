/- the plain law, part 3 -/
import Derived.Test.YtahhhfgmcdajhaaP2
set_option autoImplicit false
set_option linter.unusedSimpArgs false
set_option linter.unusedVariables false
set_option linter.unnecessarySimpa false
section
set_option linter.unusedSimpArgs false
set_option linter.unusedVariables false
set_option maxHeartbeats 1000000
namespace Go.Av
theorem pIns_at {j : PJob} : ∀ {js : List PJob} {i : Nat}, i ≤ js.length → (∀ m (h : m < js.length), m < i → js[m].id < j.id) → (∀ h : i < js.length, j.id < js[i].id) → pIns j js = js.take i ++ j :: js.drop i
 | [], i, hi, _, _ => by simp [pIns]
 | a :: l, 0, _, _, h2 => by simp only [pIns]; rw [if_pos (show j.id < a.id from h2 (by simp))]; rfl
 | a :: l, i + 1, hi, h1, h2 => by
  have ha : a.id < j.id := h1 0 (by simp) (by omega)
  simp only [pIns]
  rw [if_neg (by omega), pIns_at (i := i) (by simpa using hi) (fun m hm hmi => h1 (m + 1) (by simpa using hm) (by omega)) (fun h => h2 (by simpa using h))]
  rfl
theorem l21_ok {n : Nat} {m : S9} {js : List PJob} (hj : m.c3 = js.map toJ) (hl : js.length ≤ 100000) (hs : js.Pairwise (fun a b => a.id < b.id)) (id : Int) (body : List Int) (hne : ∀ j, j ∈ js → j.id ≠ id) : ∀ (f i : Nat), i ≤ js.length → js.length - i < f → (∀ q (h : q < js.length), q < i → js[q].id < id) →
  l21_0 n m id body f (i : Int) = some (0, ⟨m.c0, m.c1, m.c2, (pIns ⟨id, body, [], none⟩ js).map toJ, m.c4⟩) := by
 intro f
 induction f with
 | zero => intro i _ hf; omega
 | succ f ih =>
  intro i hi hf hb
  have hlen : m.c3.length = js.length := by rw [hj, List.length_map]
  have fin : (∀ h : i < js.length, id < js[i].id) → (if (0 : Int) ≤ (i : Int) ∧ (0 ≤ Int.toNat (i : Int) ∧ Int.toNat (i : Int) ≤ m.c3.length) then (if (List.drop 0 (List.take (Int.toNat (i : Int)) m.c3)).length ≤ 1599289640401 then (if (List.drop 0 (List.take (Int.toNat (i : Int)) m.c3)).length + 1 ≤ 1599289640401 then (if (0 : Int) ≤ (i : Int) ∧ (Int.toNat (i : Int) ≤ m.c3.length ∧ m.c3.length ≤ m.c3.length) then (if ((List.drop 0 (List.take (Int.toNat (i : Int)) m.c3)) ++ ([(⟨id, body, 0, false, 0, 0, ([] : List Int)⟩ : S5)] : List S5)).length + (List.drop (Int.toNat (i : Int)) (List.take m.c3.length m.c3)).length ≤ 1599289640401 then (some ((0 : Int), (⟨m.c0, m.c1, m.c2, ((List.drop 0 (List.take (Int.toNat (i : Int)) m.c3)) ++ ([(⟨id, body, 0, false, 0, 0, ([] : List Int)⟩ : S5)] : List S5)) ++ (List.drop (Int.toNat (i : Int)) (List.take m.c3.length m.c3)), m.c4⟩ : S9))) else none) else none) else none) else none) else none) = some (0, ⟨m.c0, m.c1, m.c2, (pIns ⟨id, body, [], none⟩ js).map toJ, m.c4⟩) := by
   intro hq
   rw [Int.toNat_natCast, if_pos (by omega), if_pos (by simp; omega), if_pos (by simp; omega), if_pos (by omega), if_pos (by simp; omega), pIns_at (j := ⟨id, body, [], none⟩) hi hb hq, hj]
   simp [List.take_of_length_le, toJ]
  rw [l21_0]
  by_cases hc : i < js.length
  ·rw [if_pos (by omega), if_pos (by omega), if_pos (by rw [Int.toNat_natCast]; omega)]
   have e : rdn m.c3 (Int.toNat (i : Int)) = toJ js[i] := by rw [Int.toNat_natCast, rdn_get (by omega)]; simp [hj]
   rw [e]
   by_cases q : js[i].id < id
   ·rw [if_pos (by exact q), wrap1 (by omega)]
    clear fin
    have g1 : i + 1 ≤ js.length := by omega
    have g2 : js.length - (i + 1) < f := by omega
    refine ih (i + 1) g1 g2 ?_
    intro p hp hpi
    by_cases e2 : p = i
    ·subst e2; exact q
    ·exact hb p hp (by omega)
   ·rw [if_neg (by exact q)]
    have h7 := hne js[i] (List.getElem_mem hc)
    have h8 : id < js[i].id := by clear fin; omega
    exact fin (fun _ => h8)
  ·rw [if_neg (by omega)]
   exact fin (fun h => absurd h hc)
theorem find_none {s : PSt} {id : Int} (h : pFind s id = none) : ∀ j, j ∈ s.jobs → j.id ≠ id := by
 intro j hj e
 have := List.find?_eq_none.1 h j hj
 simp [e] at this
theorem find_some {s : PSt} {id : Int} {j : PJob} (h : pFind s id = some j) : ∃ i, ∃ hi : i < s.jobs.length, s.jobs[i] = j ∧ j.id = id := by
 obtain ⟨i, hi, e⟩ := List.mem_iff_getElem.1 (List.mem_of_find?_eq_some h)
 exact ⟨i, hi, e, by simpa using List.find?_some h⟩
theorem g52_ok {n : Nat} (hn : 100000 < n) {s : PSt} {m : S9} (h : Rel s m) (hl : s.jobs.length ≤ 100000) (id : Int) : g52 n m id = some (ixI s.jobs id 0) := l52_ok h.jobs hl id n 0 (by omega) (by omega)
theorem g21_ok {n : Nat} (hn : 100000 < n) {s : PSt} {m : S9} (h : Rel s m) (hs : s.jobs.Pairwise (fun a b => a.id < b.id)) (hl : s.jobs.length ≤ 100000) (id : Int) (body : List Int) : ∃ m', g21 n m id body = some ((pAdd s id body).1, m') ∧ Rel (pAdd s id body).2 m' := by
 have hlen : m.c3.length = s.jobs.length := by rw [h.jobs, List.length_map]
 unfold g21 pAdd
 by_cases c1 : id < 0
 ·rw [if_pos c1, if_pos c1]; exact ⟨m, rfl, h⟩
 ·rw [if_neg c1, if_neg c1]
  by_cases c2 : 65536 < body.length
  ·rw [if_pos (by omega), if_pos (.inl c2)]; exact ⟨m, rfl, h⟩
  ·rw [if_neg (by omega)]
   by_cases c3 : 1024 ≤ s.jobs.length
   ·rw [if_pos (by omega), if_pos (.inr c3)]; exact ⟨m, rfl, h⟩
   ·rw [if_neg (by omega), if_neg (by omega), g52_ok hn h hl, Option.bind_some]
    cases hf : pFind s id with
    | some j =>
     obtain ⟨i, hi, rfl, e⟩ := find_some hf
     rw [← e, ixI_get hs hi, if_pos (by omega)]; exact ⟨m, rfl, h⟩
    | none =>
     have hne := find_none hf
     rw [ixI_none hne, if_neg (by decide)]
     refine ⟨_, l21_ok h.jobs hl hs id body hne n 0 (by omega) (by omega) (fun q _ hq => absurd hq (by omega)), h.al, h.to, h.tick, rfl, fun j hj => ?_, fun t ht => ?_⟩
     ·rcases mem_pIns.1 hj with rfl | hj
      ·simp only [tryS, List.mapIdx_nil]
       rw [List.filter_eq_nil_iff]
       intro t ht
       obtain ⟨j, hj, e⟩ := h.known t ht
       have := hne j hj
       simp; omega
      ·exact h.tries j hj
     ·obtain ⟨j, hj, e⟩ := h.known t ht
      exact ⟨j, mem_pIns.2 (.inr hj), e⟩
end Go.Av
end
