/- the plain law, part 9 -/
import Derived.Test.YtahhhfgmcdajhaaP8
set_option autoImplicit false
set_option linter.unusedSimpArgs false
set_option linter.unusedVariables false
set_option linter.unnecessarySimpa false
section
set_option linter.unusedSimpArgs false
set_option linter.unusedVariables false
set_option maxHeartbeats 2000000
namespace Go.Av
theorem rd_get {α : Type} [Inhabited α] {l : List α} {i : Nat} (h : i < l.length) : rd l (i : Int) = l[i] := by simp [rd, h]
theorem l53_ok {n : Nat} {l : List Int} (hl : l.length ≤ 100000) : ∀ (f i : Nat), i ≤ l.length → l.length - i < f → l53_0 n l l f (i : Int) = some true := by
 intro f
 induction f with
 | zero => intro i _ hf; omega
 | succ f ih =>
  intro i hi hf
  rw [l53_0]
  by_cases hc : i < l.length
  ·rw [if_pos (by omega), if_pos (by omega), if_pos (by omega), if_pos rfl, wrap1 (by omega)]
   exact ih (i + 1) (by omega) (by omega)
  ·rw [if_neg (by omega)]
theorem g53_ok {n : Nat} (hn : 100000 < n) {l : List Int} (hl : l.length ≤ 100000) : g53 n l l = some true := by
 unfold g53; rw [if_pos rfl]; exact l53_ok hl n 0 (by omega) (by omega)
theorem l34_ok {n : Nat} {l : List Int} (hl : l.length ≤ 100000) : ∀ (f i : Nat), i ≤ l.length → l.length - i < f → l34_0 n l l f (i : Int) = some true := by
 intro f
 induction f with
 | zero => intro i _ hf; omega
 | succ f ih =>
  intro i hi hf
  rw [l34_0]
  by_cases hc : i < l.length
  ·rw [if_pos (by omega), if_pos (by omega), if_pos (by omega), if_pos rfl, wrap1 (by omega)]
   exact ih (i + 1) (by omega) (by omega)
  ·rw [if_neg (by omega)]
theorem g34_ok {n : Nat} (hn : 100000 < n) {l : List Int} (hl : l.length ≤ 100000) : g34 n l l = some true := by
 unfold g34; rw [if_pos rfl]; exact l34_ok hl n 0 (by omega) (by omega)
theorem l54_ok {n : Nat} {m : S9} {js : List PJob} (hj : m.c3 = js.map toJ) (hl : js.length ≤ 100000) : ∀ (f i : Nat) (x1 : List Int), i ≤ js.length → js.length - i < f → x1.length + (js.length - i) ≤ 100000 →
  l54_0 n m f x1 (i : Int) = some (x1 ++ ((js.drop i).filter fun j => j.ans.isNone).map (·.id)) := by
 intro f
 induction f with
 | zero => intro i x1 _ hf; omega
 | succ f ih =>
  intro i x1 hi hf hx
  have hlen : m.c3.length = js.length := by rw [hj, List.length_map]
  rw [l54_0]
  by_cases hc : i < js.length
  ·have e : rdn m.c3 i = toJ js[i] := by rw [rdn_get (by omega)]; simp [hj]
   rw [if_pos (by omega), if_pos (by omega), if_pos (by rw [Int.toNat_natCast]; omega), Int.toNat_natCast, e, wrap1 (by omega), List.drop_eq_getElem_cons hc, List.filter_cons]
   have ec : (toJ js[i]).c3 = js[i].ans.isSome := rfl
   have hnn : js[i].ans.isNone = !js[i].ans.isSome := by simp
   by_cases q : (toJ js[i]).c3 = true
   ·rw [if_pos q, ih (i + 1) x1 (by omega) (by omega) (by omega), hnn, ← ec, q]; rfl
   ·rw [if_neg q, if_pos (by omega), ih (i + 1) _ (by omega) (by omega) (by simp; omega), hnn, ← ec]
    have : (toJ js[i]).c3 = false := by simpa using q
    rw [this]
    simp [toJ]
  ·rw [if_neg (by omega), List.drop_eq_nil_of_le (by omega)]; simp
theorem dnL_app (a b : List PJob) : dnL (a ++ b) = dnL a ++ dnL b := by simp [dnL]
theorem l20_ok {n : Nat} (hn : 100000 < n) {m : S9} {js : List PJob} (hj : m.c3 = js.map toJ) (hl : js.length ≤ 100000) (hb : ∀ j, j ∈ js → ∀ r, j.ans = some r → r.body.length ≤ 65536) : ∀ (f i k : Nat), i ≤ js.length → js.length - i < f → k = (dnL (js.take i)).length →
  l20_0 n m (dnL js) f (k : Int) (i : Int) = some true := by
 intro f
 induction f with
 | zero => intro i k _ hf; omega
 | succ f ih =>
  intro i k hi hf hk
  have hlen : m.c3.length = js.length := by rw [hj, List.length_map]
  have hkl : k ≤ i := by
   rw [hk]; unfold dnL; rw [List.length_map]; exact Nat.le_trans (List.length_filterMap_le _ _) (by simp; omega)
  rw [l20_0]
  by_cases hc : i < js.length
  ·have e : rdn m.c3 i = toJ js[i] := by rw [rdn_get (by omega)]; simp [hj]
   have hsplit : js = js.take i ++ js[i] :: js.drop (i + 1) := by rw [← List.drop_eq_getElem_cons hc, List.take_append_drop]
   rw [if_pos (by omega), if_pos (by omega), if_pos (by rw [Int.toNat_natCast]; omega), Int.toNat_natCast, e, wrap1 (by omega), wrap1 (by omega)]
   have ec : (toJ js[i]).c3 = js[i].ans.isSome := rfl
   rcases hji : js[i] with ⟨a, b, t, _ | r⟩
   ·rw [if_neg (by simp [toJ])]
    exact ih (i + 1) k (by omega) (by omega) (by rw [dn_none hc hji]; exact hk)
   ·rw [if_pos (by simp [toJ])]
    have hd : dnL js = dnL (js.take i) ++ ⟨a, r.worker, r.try', r.body⟩ :: dnL (js.drop (i + 1)) := by
     conv => lhs; rw [hsplit]
     rw [dnL_app, hji]; rfl
    have hkl2 : k < (dnL js).length := by rw [hd, hk]; simp
    have hat : rd (dnL js) (k : Int) = ⟨a, r.worker, r.try', r.body⟩ := by
     rw [rd_get hkl2]
     have : (dnL js)[k]? = some ⟨a, r.worker, r.try', r.body⟩ := by rw [hd, hk]; simp
     exact (List.getElem?_eq_some_iff.1 this).2
    rw [if_neg (by omega), if_pos (by omega), hat]
    have hbb := hb _ (List.getElem_mem hc) r (by rw [hji])
    simp only [toJ, Option.map_some, Option.getD_some, if_true, reduceIte]
    rw [g34_ok hn (by omega), Option.bind_some, if_pos rfl]
    exact ih (i + 1) (k + 1) (by omega) (by omega) (by rw [dn_some hc hji]; simp [hk])
  ·have : i = js.length := by omega
   subst this
   rw [if_neg (by omega), hk, List.take_length]
   simp
theorem g20_ok {n : Nat} (hn : 100000 < n) {s : PSt} {m : S9} (h : Rel s m) (hl : s.jobs.length ≤ 100000) (hb : ∀ j, j ∈ s.jobs → ∀ r, j.ans = some r → r.body.length ≤ 65536) : g20 n s m = some true := by
 unfold g20 g13 g28 g54
 have e := l54_ok (n := n) h.jobs hl n 0 [] (by omega) (by omega) (by simp; omega)
 rw [show ((0 : Nat) : Int) = 0 from rfl, List.drop_zero, List.nil_append] at e
 rw [Option.bind_some, e, Option.bind_some]
 have hop : pOpen s = (s.jobs.filter fun j => j.ans.isNone).map (·.id) := rfl
 rw [← hop, g53_ok hn (by rw [hop, List.length_map]; exact Nat.le_trans (List.length_filter_le _ _) hl), Option.bind_some, if_pos rfl, Option.bind_some]
 have := l20_ok hn h.jobs hl hb n 0 0 (by omega) (by omega) (by simp [dnL])
 exact this
end Go.Av
end
