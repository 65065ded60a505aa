/- the plain law, part 17 -/
import Derived.Test.YtahhhfgmcdajhaaP16
set_option autoImplicit false
set_option linter.unusedSimpArgs false
set_option linter.unusedVariables false
set_option linter.unnecessarySimpa false
section
set_option linter.unusedSimpArgs false
set_option linter.unusedVariables false
set_option maxHeartbeats 4000000
set_option maxRecDepth 4000
namespace Go.Av
def encOf (n : Nat) (b : Int) : List Int := ((g31 n ⟨[]⟩ b).bind (g32 n)).getD []
def resOf (n : Nat) (l : List Int) : List Int := (g33 n l).getD []
theorem encE {n : Nat} (hn : 100 < n) (b : Int) : ∃ w, g31 n ⟨[]⟩ b = some w ∧ g32 n w = some (encOf n b) ∧ (encOf n b).length ≤ 10 := by
 obtain ⟨w, e, h1, h2, h3⟩ := enc_ok hn b
 have : encOf n b = e := by unfold encOf; rw [h1, Option.bind_some, h2]; rfl
 exact ⟨w, h1, by rw [this]; exact h2, by rw [this]; exact h3⟩
theorem resE {n : Nat} (hn : 100 < n) {l : List Int} (hl : l.length ≤ 40) : g33 n l = some (resOf n l) ∧ (resOf n l).length ≤ 10 := by
 obtain ⟨r, h1, h2⟩ := res_ok hn hl
 have : resOf n l = r := by unfold resOf; rw [h1]; rfl
 exact ⟨by rw [this]; exact h1, by rw [this]; exact h2⟩
def sE (n : Nat) (a0 : List Int) : List (List Int) := (a0.take 10).map (encOf n)
def sR (n : Nat) (a0 : List Int) : List (List Int) := (sE n a0).map (resOf n)
theorem sE_len {n : Nat} {a0 : List Int} : (sE n a0).length = min 10 a0.length := by simp [sE]
theorem sE_at {n : Nat} {a0 : List Int} {i : Nat} (h : i < min 10 a0.length) : rdn (sE n a0) i = encOf n (rd a0 (i : Int)) := by
 have h1 : i < a0.length := by omega
 have h2 : i < 10 := by omega
 simp [sE, rdn, rd, h1, h2]
theorem sR_at {n : Nat} {a0 : List Int} {i : Nat} (h : i < min 10 a0.length) : rdn (sR n a0) i = resOf n (rdn (sE n a0) i) := by
 have h1 : i < a0.length := by omega
 have h2 : i < 10 := by omega
 simp [sR, sE, rdn, h1, h2]
theorem resA8 {n : Nat} (hn : 100 < n) {a0 : List Int} {i : Nat} (h : i < min 10 a0.length) : g33 n (rdn (sE n a0) i) = some (rdn (sR n a0) i) ∧ (rdn (sR n a0) i).length ≤ 10 := by
 obtain ⟨w, _, _, h3⟩ := encE hn (rd a0 (i : Int))
 rw [sR_at h]
 exact resE hn (by rw [sE_at h]; omega)
theorem manyE {a0 : List Int} : (if 10 < (a0.length : Int) then 10 else (a0.length : Int)) = ((min 10 a0.length : Nat) : Int) := by split <;> omega
theorem done_all : ∀ {js : List PJob}, (∀ j, j ∈ js → j.ans.isSome = true) → js.filterMap (fun j => j.ans.map fun r => (j.id, r)) = js.map fun j => (j.id, j.ans.getD default)
 | [], _ => rfl
 | j :: js, h => by
  have h1 := h j (List.mem_cons_self ..)
  have h2 := done_all (js := js) fun x hx => h x (List.mem_cons_of_mem _ hx)
  obtain ⟨a, b, c, _ | r⟩ := j
  ·cases h1
  ·simp [h2]
theorem lives_an (n : Nat) : g16 n = some true := by
 have h := lives_ok
 unfold g16 at h ⊢
 exact h
theorem l34_same {n : Nat} {l : List Int} (hl : l.length ≤ 100000) : ∀ (f i : Nat), i ≤ l.length → l.length - i < f → l34_0 n l l f (i : Int) = some true := by
 intro f
 induction f with
 | zero => intro i _ hf; omega
 | succ f ih =>
  intro i hi hf
  rw [l34_0]
  by_cases hc : i < l.length
  ·rw [if_pos (by omega), if_pos (by omega), if_pos (by omega), if_pos rfl, wrap_i64 (x := (i : Int) + 1) (by omega) (by omega)]
   exact ih (i + 1) (by omega) (by omega)
  ·rw [if_neg (by omega)]
theorem g34_same {n : Nat} (hn : 100000 < n) {l : List Int} (hl : l.length ≤ 100000) : g34 n l l = some true := by
 unfold g34; rw [if_pos rfl]; exact l34_same hl n 0 (by omega) (by omega)
section
variable {n : Nat} {a0 : List Int} {W : Nat} {lim : Int}
theorem l8_3_ok (hn : 100000 < n) {s : PSt} {T : Int} {k : Nat} (h : SM (sE n a0) (sR n a0) W lim T k s) (ha : ∀ j, j ∈ s.jobs → j.ans.isSome = true) :
  ∀ (f i : Nat), i ≤ min 10 a0.length → 11 - i < f → l8_3 n a0 ((s.jobs.map fun j => (j.id, j.ans.getD default)).map fun x => (⟨x.1, x.2.worker, x.2.try', x.2.body⟩ : S2)) f (i : Int) = some true := by
 have hlen := h.len
 rw [sE_len] at hlen
 intro f
 induction f with
 | zero => intro i _ hf; omega
 | succ f ih =>
  intro i hi hf
  rw [l8_3, manyE]
  by_cases c : i < min 10 a0.length
  ·obtain ⟨w, h1, h2, h3⟩ := encE (n := n) (by omega) (rd a0 (i : Int))
   have hj := h.job i (by omega)
   have hs := ha _ (List.getElem_mem (show i < s.jobs.length by omega))
   have hr : rd ((s.jobs.map fun j => (j.id, j.ans.getD default)).map fun x => (⟨x.1, x.2.worker, x.2.try', x.2.body⟩ : S2)) (i : Int) = ⟨s.jobs[i].id, (s.jobs[i].ans.getD default).worker, (s.jobs[i].ans.getD default).try', (s.jobs[i].ans.getD default).body⟩ := by
    have hi2 : i < s.jobs.length := by omega
    simp [rd, hi2]
   have hb : (s.jobs[i].ans.getD default).body = rdn (sR n a0) i := by
    cases e : s.jobs[i].ans with
    | none => rw [e] at hs; cases hs
    | some r => exact hj.ans r e
   obtain ⟨r1, r2⟩ := resA8 (n := n) (by omega) c
   rw [if_pos (by omega), if_pos (by omega), h1, Option.bind_some, if_pos (by simp; omega), hr]
   dsimp only
   rw [if_pos (by rw [hj.id, wrap_i64 (by omega) (by omega)]; omega), h2, Option.bind_some, ← sE_at c, r1, Option.bind_some, hb, g34_same hn (by omega), Option.bind_some, if_pos rfl, wrap_i64 (by omega) (by omega)]
   exact ih (i + 1) (by omega) (by omega)
  ·rw [if_neg (by omega), lives_an]; rfl
theorem l8_2_ok (hn : 100000 < n) (hl : 0 < lim ∧ lim ≤ 6) (hW : 1 ≤ W) : ∀ (f i : Nat) (s : PSt) (T : Int) (k : Nat), SM (sE n a0) (sR n a0) W lim T k s → rdn s.alive 0 = true → AN s i → i ≤ 12 → 0 ≤ T → T ≤ 80 + 7 * i → k ≤ 40 + i → 13 - i ≤ f →
  l8_2 n a0 f T (i : Int) s = some true := by
 intro f
 induction f with
 | zero => intro i s T k _ _ _ hi _ _ _ hf; omega
 | succ f ih =>
  intro i s T k h ha hA hi hT0 hT hk hf
  rw [l8_2]
  have hlen := h.len
  rw [sE_len] at hlen
  by_cases c : i < 12
  ·obtain ⟨x, e1, e2, e3⟩ := last_step h hl ha hW ⟨hT0, by omega⟩ (fun q hq => by rw [sE_len] at hq; have := (resA8 (n := n) (by omega) hq).2; omega) (by omega) hA
   have w1 : IntKind.i64.wrap (T + 7) = T + 7 := wrap_i64 (by omega) (by omega)
   have w2 : IntKind.i64.wrap ((i : Int) + 1) = ((i + 1 : Nat) : Int) := by rw [wrap_i64 (by omega) (by omega)]; rfl
   rw [if_pos (by omega), w1, w2]
   unfold g14
   rw [e1, Option.map_some, Option.bind_some]
   simp only
   rw [if_pos e2]
   rcases e3 with ⟨c1, c2, c3, c4⟩ | ⟨c1, q, hq, q1, q2, c2, c3, c4⟩
   ·rw [if_neg (by rw [c1]; simp)]
    exact ih (i + 1) _ _ (k + 1) c3 (by rw [c2]; exact ha) c4 (by omega) (by omega) (by omega) (by omega) (by omega)
   ·rw [if_pos c1, q2, (resA8 (n := n) (by omega) (by rw [sE_len] at hq; exact hq)).1, Option.bind_some]
    unfold g15
    rw [Option.bind_some]
    exact ih (i + 1) _ _ (k + 1) c3 (by rw [c2]; exact ha) c4 (by omega) (by omega) (by omega) (by omega) (by omega)
  ·have hall : ∀ j, j ∈ s.jobs → j.ans.isSome = true := by
    intro j hj
    obtain ⟨q, hq, rfl⟩ := List.mem_iff_getElem.1 hj
    exact hA q hq (by omega)
   rw [if_neg (by omega)]
   have ho : pOpen s = [] := by
    unfold pOpen
    rw [List.filter_eq_nil_iff.2 (fun j hj => by have := hall j hj; simp; intro e; rw [e] at this; cases this)]; rfl
   have hd : pDone s = s.jobs.map fun j => (j.id, j.ans.getD default) := done_all hall
   unfold g28 g13
   rw [Option.bind_some, Option.bind_some, ho, hd, if_pos (show ((([] : List Int).length : Nat) : Int) = 0 from rfl), manyE, if_pos (by simp; omega)]
   exact l8_3_ok hn h hall n 0 (by omega) (by omega)
theorem fin_2 (hn : 100000 < n) (hl : 0 < lim ∧ lim ≤ 6) (hW : 1 ≤ W) {s : PSt} {T : Int} {k : Nat} (h : SM (sE n a0) (sR n a0) W lim T k s) (hT0 : 0 ≤ T) (hT : T ≤ 80) (hk : k ≤ 40) : ((g26 n s 0).bind fun v63 => l8_2 n a0 n T 0 v63.2) = some true := by
 unfold g26
 rw [Option.bind_some]
 have hal := h.al
 refine l8_2_ok hn hl hW n 0 _ T k (sm_rev h 0) ?_ (fun q _ hq => absurd hq (by omega)) (by omega) hT0 (by omega) (by omega) (by omega)
 unfold pRevive
 rw [if_neg (by omega)]
 split
 ·rename_i h1; exact h1
 ·simp only [rdn, Int.toNat_zero]
  rw [List.getD_eq_getElem?_getD, List.getElem?_set_self (by omega)]; rfl
theorem l8_5_ok (hn : 100000 < n) {s : PSt} {T : Int} {k : Nat} (h : SM (sE n a0) (sR n a0) W lim T k s) (ha : ∀ j, j ∈ s.jobs → j.ans.isSome = true) :
  ∀ (f i : Nat), i ≤ min 10 a0.length → 11 - i < f → l8_5 n a0 ((s.jobs.map fun j => (j.id, j.ans.getD default)).map fun x => (⟨x.1, x.2.worker, x.2.try', x.2.body⟩ : S2)) f (i : Int) = some true := by
 have hlen := h.len
 rw [sE_len] at hlen
 intro f
 induction f with
 | zero => intro i _ hf; omega
 | succ f ih =>
  intro i hi hf
  rw [l8_5, manyE]
  by_cases c : i < min 10 a0.length
  ·obtain ⟨w, h1, h2, h3⟩ := encE (n := n) (by omega) (rd a0 (i : Int))
   have hj := h.job i (by omega)
   have hs := ha _ (List.getElem_mem (show i < s.jobs.length by omega))
   have hr : rd ((s.jobs.map fun j => (j.id, j.ans.getD default)).map fun x => (⟨x.1, x.2.worker, x.2.try', x.2.body⟩ : S2)) (i : Int) = ⟨s.jobs[i].id, (s.jobs[i].ans.getD default).worker, (s.jobs[i].ans.getD default).try', (s.jobs[i].ans.getD default).body⟩ := by
    have hi2 : i < s.jobs.length := by omega
    simp [rd, hi2]
   have hb : (s.jobs[i].ans.getD default).body = rdn (sR n a0) i := by
    cases e : s.jobs[i].ans with
    | none => rw [e] at hs; cases hs
    | some r => exact hj.ans r e
   obtain ⟨r1, r2⟩ := resA8 (n := n) (by omega) c
   rw [if_pos (by omega), if_pos (by omega), h1, Option.bind_some, if_pos (by simp; omega), hr]
   dsimp only
   rw [if_pos (by rw [hj.id, wrap_i64 (by omega) (by omega)]; omega), h2, Option.bind_some, ← sE_at c, r1, Option.bind_some, hb, g34_same hn (by omega), Option.bind_some, if_pos rfl, wrap_i64 (by omega) (by omega)]
   exact ih (i + 1) (by omega) (by omega)
  ·rw [if_neg (by omega), lives_an]; rfl
theorem l8_4_ok (hn : 100000 < n) (hl : 0 < lim ∧ lim ≤ 6) (hW : 1 ≤ W) : ∀ (f i : Nat) (s : PSt) (T : Int) (k : Nat), SM (sE n a0) (sR n a0) W lim T k s → rdn s.alive 0 = true → AN s i → i ≤ 12 → 0 ≤ T → T ≤ 80 + 7 * i → k ≤ 40 + i → 13 - i ≤ f →
  l8_4 n a0 f T (i : Int) s = some true := by
 intro f
 induction f with
 | zero => intro i s T k _ _ _ hi _ _ _ hf; omega
 | succ f ih =>
  intro i s T k h ha hA hi hT0 hT hk hf
  rw [l8_4]
  have hlen := h.len
  rw [sE_len] at hlen
  by_cases c : i < 12
  ·obtain ⟨x, e1, e2, e3⟩ := last_step h hl ha hW ⟨hT0, by omega⟩ (fun q hq => by rw [sE_len] at hq; have := (resA8 (n := n) (by omega) hq).2; omega) (by omega) hA
   have w1 : IntKind.i64.wrap (T + 7) = T + 7 := wrap_i64 (by omega) (by omega)
   have w2 : IntKind.i64.wrap ((i : Int) + 1) = ((i + 1 : Nat) : Int) := by rw [wrap_i64 (by omega) (by omega)]; rfl
   rw [if_pos (by omega), w1, w2]
   unfold g14
   rw [e1, Option.map_some, Option.bind_some]
   simp only
   rw [if_pos e2]
   rcases e3 with ⟨c1, c2, c3, c4⟩ | ⟨c1, q, hq, q1, q2, c2, c3, c4⟩
   ·rw [if_neg (by rw [c1]; simp)]
    exact ih (i + 1) _ _ (k + 1) c3 (by rw [c2]; exact ha) c4 (by omega) (by omega) (by omega) (by omega) (by omega)
   ·rw [if_pos c1, q2, (resA8 (n := n) (by omega) (by rw [sE_len] at hq; exact hq)).1, Option.bind_some]
    unfold g15
    rw [Option.bind_some]
    exact ih (i + 1) _ _ (k + 1) c3 (by rw [c2]; exact ha) c4 (by omega) (by omega) (by omega) (by omega) (by omega)
  ·have hall : ∀ j, j ∈ s.jobs → j.ans.isSome = true := by
    intro j hj
    obtain ⟨q, hq, rfl⟩ := List.mem_iff_getElem.1 hj
    exact hA q hq (by omega)
   rw [if_neg (by omega)]
   have ho : pOpen s = [] := by
    unfold pOpen
    rw [List.filter_eq_nil_iff.2 (fun j hj => by have := hall j hj; simp; intro e; rw [e] at this; cases this)]; rfl
   have hd : pDone s = s.jobs.map fun j => (j.id, j.ans.getD default) := done_all hall
   unfold g28 g13
   rw [Option.bind_some, Option.bind_some, ho, hd, if_pos (show ((([] : List Int).length : Nat) : Int) = 0 from rfl), manyE, if_pos (by simp; omega)]
   exact l8_5_ok hn h hall n 0 (by omega) (by omega)
theorem fin_4 (hn : 100000 < n) (hl : 0 < lim ∧ lim ≤ 6) (hW : 1 ≤ W) {s : PSt} {T : Int} {k : Nat} (h : SM (sE n a0) (sR n a0) W lim T k s) (hT0 : 0 ≤ T) (hT : T ≤ 80) (hk : k ≤ 40) : ((g26 n s 0).bind fun v63 => l8_4 n a0 n T 0 v63.2) = some true := by
 unfold g26
 rw [Option.bind_some]
 have hal := h.al
 refine l8_4_ok hn hl hW n 0 _ T k (sm_rev h 0) ?_ (fun q _ hq => absurd hq (by omega)) (by omega) hT0 (by omega) (by omega) (by omega)
 unfold pRevive
 rw [if_neg (by omega)]
 split
 ·rename_i h1; exact h1
 ·simp only [rdn, Int.toNat_zero]
  rw [List.getD_eq_getElem?_getD, List.getElem?_set_self (by omega)]; rfl
/-- the tasks so far -/
def sJ (n : Nat) (a0 : List Int) (i : Nat) : List PJob := (List.range i).map fun q => ⟨((3 * q : Nat) : Int), rdn (sE n a0) q, [], none⟩
theorem pIns_end {j : PJob} : ∀ {l : List PJob}, (∀ a, a ∈ l → a.id < j.id) → pIns j l = l ++ [j]
 | [], _ => rfl
 | a :: l, h => by
  have h1 := h a (List.mem_cons_self ..)
  rw [pIns, if_neg (by omega), pIns_end fun x hx => h x (List.mem_cons_of_mem _ hx)]; rfl
theorem sJ_id {i : Nat} {j : PJob} (h : j ∈ sJ n a0 i) : ∃ q, q < i ∧ j.id = ((3 * q : Nat) : Int) := by
 obtain ⟨q, hq, rfl⟩ := List.mem_map.1 h
 exact ⟨q, List.mem_range.1 hq, rfl⟩
theorem l8_0_ok (hn : 100000 < n) (a1 : List Int) (v7 : Int) {al : List Bool} {lim : Int} (hfin : l8_1 n a0 a1 v7 n 0 [] 0 ⟨al, lim, 0, sJ n a0 (min 10 a0.length)⟩ = some true) : ∀ (f i : Nat), i ≤ min 10 a0.length → 11 - i < f →
  l8_0 n a0 a1 v7 f (i : Int) ⟨al, lim, 0, sJ n a0 i⟩ = some true := by
 intro f
 induction f with
 | zero => intro i _ hf; omega
 | succ f ih =>
  intro i hi hf
  rw [l8_0, manyE]
  by_cases c : i < min 10 a0.length
  ·obtain ⟨w, h1, h2, h3⟩ := encE (n := n) (by omega) (rd a0 (i : Int))
   have w1 : IntKind.i64.wrap (3 * (i : Int)) = ((3 * i : Nat) : Int) := by rw [wrap_i64 (by omega) (by omega)]; omega
   have w2 : IntKind.i64.wrap ((i : Int) + 1) = ((i + 1 : Nat) : Int) := by rw [wrap_i64 (by omega) (by omega)]; rfl
   rw [if_pos (by omega), if_pos (by omega), h1, Option.bind_some, h2, Option.bind_some, w1, w2]
   have hadd : pAdd ⟨al, lim, 0, sJ n a0 i⟩ ((3 * i : Nat) : Int) (encOf n (rd a0 (i : Int))) = (0, ⟨al, lim, 0, sJ n a0 (i + 1)⟩) := by
    have hnf : pFind ⟨al, lim, 0, sJ n a0 i⟩ ((3 * i : Nat) : Int) = none := by
     unfold pFind
     rw [List.find?_eq_none]
     intro j hj
     obtain ⟨q, hq, e⟩ := sJ_id hj
     simp [e]; omega
    have hjl : (sJ n a0 i).length = i := by simp [sJ]
    unfold pAdd
    rw [if_neg (by omega), if_neg (by simp only [hjl]; omega), hnf]
    simp only
    rw [pIns_end fun a ha => by obtain ⟨q, hq, e⟩ := sJ_id ha; rw [e]; simp only; omega]
    congr 2
    simp only [sJ, List.range_succ, List.map_append, List.map_cons, List.map_nil]
    rw [sE_at c]
   unfold g12
   rw [Option.bind_some]
   simp only
   rw [hadd, if_pos rfl]
   exact ih (i + 1) (by omega) (by omega)
  ·have : i = min 10 a0.length := by omega
   subst this
   rw [if_neg (by omega)]
   exact hfin
/-- late answers -/
def Lt (E R : List (List Int)) (l : List S2) : Prop := ∀ r, r ∈ l → ∃ q, q < E.length ∧ r.c0 = ((3 * q : Nat) : Int) ∧ r.c3 = rdn R q
theorem Lt.body {E R : List (List Int)} {l : List S2} (h : Lt E R l) {r : S2} (hr : r ∈ l) : ∀ i, i < E.length → r.c0 = ((3 * i : Nat) : Int) → r.c3 = rdn R i := by
 intro i hi e
 obtain ⟨q, hq, e1, e2⟩ := h r hr
 have : q = i := by rw [e] at e1; omega
 subst this; exact e2
theorem rd_in {l : List S2} {i : Int} (h : 0 ≤ i ∧ i < (l.length : Int)) : rd l i ∈ l := by
 obtain ⟨k, rfl⟩ := Int.eq_ofNat_of_zero_le h.1
 have hk : k < l.length := by omega
 have : rd l ((k : Nat) : Int) = l[k] := by simp [rd, hk]
 rw [this]; exact List.getElem_mem hk
theorem rd_mem8 {l : List Int} {i : Int} (h : 0 ≤ i ∧ i < (l.length : Int)) : rd l i ∈ l := by
 obtain ⟨k, rfl⟩ := Int.eq_ofNat_of_zero_le h.1
 have hk : k < l.length := by omega
 have : rd l ((k : Nat) : Int) = l[k] := by simp [rd, hk]
 rw [this]; exact List.getElem_mem hk
theorem l8_1_ok (hn : 100000 < n) {a1 : List Int} (he : ∀ x, x ∈ a1 → isI64 x) {v7 : Int} (hv : 0 ≤ v7 ∧ v7 < 8) (hW : (W : Int) = 1 + v7) (hl : 0 < lim ∧ lim ≤ 6) : ∀ (f i : Nat) (s : PSt) (T : Int) (k : Nat) (late : List S2), SM (sE n a0) (sR n a0) W lim T k s → Lt (sE n a0) (sR n a0) late → late.length ≤ i → i ≤ 40 → 0 ≤ T → T ≤ 2 * i → k ≤ i → 41 - i < f →
  l8_1 n a0 a1 v7 f T late (i : Int) s = some true := by
 intro f
 induction f with
 | zero => intro i s T k late _ _ _ _ _ _ _ hf; omega
 | succ f ih =>
  intro i s T k late h hL hll hi hT0 hT hk hf
  rw [l8_1]
  by_cases c1 : (i : Int) < (a1.length : Int)
  ·rw [if_pos c1]
   by_cases c2 : (i : Int) < 40
   ·rw [if_pos c2, if_pos (by omega)]
    obtain ⟨v, e1, v0, v1⟩ := g11_rng' n (rd a1 (i : Int)) 1048576 (he _ (rd_mem8 (by omega))) (by omega)
    have wv : IntKind.i64.wrap (1 + v7) = 1 + v7 := wrap_i64 (by omega) (by omega)
    have w2 : IntKind.i64.wrap ((i : Int) + 1) = ((i + 1 : Nat) : Int) := by rw [wrap_i64 (by omega) (by omega)]; rfl
    have t0 : 0 ≤ Int.tmod v 3 := Int.tmod_nonneg _ v0
    have t1 := Int.tmod_lt_of_pos v (show (0 : Int) < 3 by omega)
    have wT : IntKind.i64.wrap (T + Int.tmod v 3) = T + Int.tmod v 3 := wrap_i64 (by omega) (by omega)
    rw [e1, Option.bind_some, wv, w2, wT, if_pos (by omega)]
    generalize hT' : T + Int.tmod v 3 = T'
    generalize hw : Int.tmod (IntKind.i64.wrap (Int.tdiv v 3)) (1 + v7) = w
    by_cases d0 : Int.tmod (IntKind.i64.wrap (Int.tdiv v 24)) 8 = 0
    ·rw [if_pos d0]
     unfold g24
     rw [Option.bind_some]
     exact ih (i + 1) _ T' k late (sm_die h (by omega) w) hL (by omega) (by omega) (by omega) (by omega) (by omega) (by omega)
    ·rw [if_neg d0]
     by_cases d1 : Int.tmod (IntKind.i64.wrap (Int.tdiv v 24)) 8 = 1
     ·rw [if_pos d1]
      unfold g26
      rw [Option.bind_some]
      exact ih (i + 1) _ T' k late ((sm_rev h w).up (by omega) (Nat.le_refl _)) hL (by omega) (by omega) (by omega) (by omega) (by omega) (by omega)
     ·rw [if_neg d1]
      by_cases d2 : Int.tmod (IntKind.i64.wrap (Int.tdiv v 24)) 8 = 2
      ·rw [if_pos d2]
       by_cases d3 : 0 < (late.length : Int)
       ·have u0 : 0 ≤ Int.tdiv v 192 := Int.tdiv_nonneg v0 (by omega)
        have u1 : Int.tdiv v 192 ≤ v := Int.tdiv_le_self _ v0
        have wu : IntKind.i64.wrap (Int.tdiv v 192) = Int.tdiv v 192 := wrap_i64 (by omega) (by omega)
        have q0 : 0 ≤ Int.tmod (Int.tdiv v 192) (late.length : Int) := Int.tmod_nonneg _ u0
        have q1 := Int.tmod_lt_of_pos (Int.tdiv v 192) d3
        rw [if_pos d3, if_pos (by omega), wu, if_pos ⟨q0, q1⟩]
        unfold g15
        rw [Option.bind_some]
        exact ih (i + 1) _ T' k late (sm_ans h (by omega) _ _ _ (hL.body (rd_in ⟨q0, q1⟩))) hL (by omega) (by omega) (by omega) (by omega) (by omega) (by omega)
       ·rw [if_neg d3]
        exact ih (i + 1) _ T' k late (h.up (by omega) (Nat.le_refl _)) hL (by omega) (by omega) (by omega) (by omega) (by omega) (by omega)
      ·rw [if_neg d2]
       obtain ⟨x, f1, f2, f3⟩ := sm_ask h (show T ≤ T' by omega) hT0 (by omega) w
       unfold g14
       rw [f1, Option.map_some, Option.bind_some]
       simp only
       by_cases d4 : x.2.2.1 = true
       ·obtain ⟨q, hq, q1, q2⟩ := f3 d4
        have hq2 : q < min 10 a0.length := by rw [sE_len] at hq; exact hq
        rw [if_pos d4, q2, (resA8 (n := n) (by omega) hq2).1, Option.bind_some, if_pos (by omega)]
        have hL2 : Lt (sE n a0) (sR n a0) (late ++ [⟨x.1.1, w, x.2.1, rdn (sR n a0) q⟩]) := by
         intro r hr
         rcases List.mem_append.1 hr with hr | hr
         ·exact hL r hr
         ·rw [List.mem_singleton.1 hr]; exact ⟨q, hq, q1, rfl⟩
        generalize hl2 : late ++ [(⟨x.1.1, w, x.2.1, rdn (sR n a0) q⟩ : S2)] = late2 at *
        have hll2 : late2.length = late.length + 1 := by rw [← hl2]; simp
        have wl : IntKind.i64.wrap ((late2.length : Int) - 1) = (late2.length : Int) - 1 := wrap_i64 (by omega) (by omega)
        rw [wl]
        by_cases d5 : Int.tmod (IntKind.i64.wrap (Int.tdiv v 192)) 2 = 0
        ·rw [if_pos d5, if_pos (by omega)]
         unfold g15
         rw [Option.bind_some]
         exact ih (i + 1) _ T' (k + 1) late2 (sm_ans f2 (Int.le_refl _) _ _ _ (hL2.body (rd_in (by omega)))) hL2 (by omega) (by omega) (by omega) (by omega) (by omega) (by omega)
        ·rw [if_neg d5]
         exact ih (i + 1) _ T' (k + 1) late2 f2 hL2 (by omega) (by omega) (by omega) (by omega) (by omega) (by omega)
       ·rw [if_neg d4]
        exact ih (i + 1) _ T' (k + 1) late f2 hL (by omega) (by omega) (by omega) (by omega) (by omega) (by omega)
   ·rw [if_neg c2]
    exact fin_2 hn hl (by omega) h hT0 (by omega) (by omega)
  ·rw [if_neg c1]
   exact fin_4 hn hl (by omega) h hT0 (by omega) (by omega)
end
theorem purePSame (a0 a1 : List Int) (a2 a3 : Int) (h0 : ∀ n, n ∈ a0 → isI64 n) (h1 : ∀ n, n ∈ a1 → isI64 n) (h2 : isI64 a2) (h3 : isI64 a3) : ∃ n, g8 n a0 a1 a2 a3 = some true := by
 refine ⟨200000, ?_⟩
 unfold g8
 obtain ⟨v, e1, v1⟩ := g11_rng' 200000 a2 8 h2 (by omega)
 obtain ⟨u, e2, u1⟩ := g11_rng' 200000 a3 6 h3 (by omega)
 obtain ⟨q1, q2, q3⟩ := new_ok (n := 200000) (by omega) (w := 1 + v) (t := 1 + u) (by omega) (by omega)
 rw [e1, Option.bind_some, e2, Option.bind_some, wrap_i64 (x := 1 + v) (by omega) (by omega), wrap_i64 (x := 1 + u) (by omega) (by omega)]
 unfold g10
 rw [q1, Option.bind_some, if_neg (by simp), if_pos rfl, Option.bind_some]
 refine l8_0_ok (by omega) a1 v ?_ 200000 0 (by omega) (by omega)
 refine l8_1_ok (W := (1 + v).toNat) (lim := 1 + u) (by omega) h1 v1 (by omega) (by omega) 200000 0 _ 0 0 [] ?_ (fun r hr => by cases hr) (by simp) (by omega) (by omega) (by omega) (by omega) (by omega)
 refine ⟨by simp [sJ, sE], fun i hi => ?_, rfl, by simp, by simp⟩
 simp only [sJ, List.getElem_map, List.getElem_range]
 exact ⟨rfl, rfl, fun r e => (by cases e), fun x hx => (by cases hx), by simp⟩
end Go.Av
end
