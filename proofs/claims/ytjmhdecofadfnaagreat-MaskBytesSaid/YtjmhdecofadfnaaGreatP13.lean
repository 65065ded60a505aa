/- the plain law, part 13 -/
import Derived.Test.YtjmhdecofadfnaaGreatP12
set_option autoImplicit false
set_option linter.unusedSimpArgs false
set_option linter.unusedVariables false
set_option linter.unnecessarySimpa false
section
namespace Go.Av
theorem stepM2 (n : Nat) (hn : 4000 ≤ n) (hn2 : n < 1000000) (b : List Int) (K : Option Bool) (P : Prop) [Decidable P] (hp : P) (h : EDM n b (g37 n b)) :
  (if P then ((g37 n b).bind fun v => if v.2 = 0 then ((g17 n (⟨v.1.c0, v.1.c1, v.1.c2⟩ : S5)).bind fun w => if w = 0 then (if P then ((g39 n (⟨v.1.c0, v.1.c1, v.1.c2⟩ : S5)).bind fun z => if (strOf z) = (strOf b) then (if v.2 = 0 then K else (if v.2 = 2 then ((g23 n (⟨v.1.c0, v.1.c1, v.1.c2⟩ : S5) (⟨0, 0, ([] : List S1)⟩ : S5)).bind fun u => if u = true then K else (some false)) else (some false))) else (some false)) else none) else (some false))
   else (if v.2 = 0 then K else (if v.2 = 2 then ((g23 n (⟨v.1.c0, v.1.c1, v.1.c2⟩ : S5) (⟨0, 0, ([] : List S1)⟩ : S5)).bind fun u => if u = true then K else (some false)) else (some false)))) else none) = K := by
 rw [if_pos hp]
 simp only [if_pos hp]
 exact stepM n hn hn2 b K h
section
variable (n : Nat) (hn : 4000 ≤ n) (hn2 : n < 1000000)
include hn hn2
theorem l6_1_ok (a5 : List Int) (a6 : Int) (v49 : List Int) (v51 : Int)
  (h : ∀ b, b ∈ ([List.take (Int.toNat (if 60 < (a5.length : Int) then 60 else (a5.length : Int))) a5, List.set v49 (Int.toNat v51) a6, (List.take (Int.toNat v51) v49) ++ (List.drop (Int.toNat (IntKind.i64.wrap (v51 + 1))) v49), v49 ++ ([a6] : List Int)] : List (List Int)) → EDM n b (g37 n b)) :
  ∀ (k i : Nat), 4 - i < k → i ≤ 4 → l6_1 n a5 a6 v49 v51 k (i : Int) = some true
 | 0, _, h, _ => by omega
 | k + 1, i, hk, hi => by
  unfold l6_1
  by_cases c : i < 4
  ·rw [if_pos (show (i : Int) < 4 by omega), wsucc i (by omega)]
   refine (stepM2 n hn hn2 _ _ (0 ≤ (i : Int) ∧ (i : Int) < 4) (by omega) (h _ (mem_rd _ i (by simpa using c)))).trans ?_
   exact l6_1_ok a5 a6 v49 v51 h k (i + 1) (by omega) (by omega)
  ·rw [if_neg (by omega)]
   rfl
theorem stepA (m : S5) (h : okM m) (K : Option Bool) (P : Prop) [Decidable P] (hp : P) :
  (if P then ((g36 n m).bind fun v16 => (g37 n v16).bind fun v18 => (g38 n v16).bind fun v22 => if P then ((g39 n m).bind fun v26 => if (strOf v16) = (strOf v26) then (if P then ((g40 n (⟨v22.c0, v22.c1⟩ : S8)).bind fun v31 => if v31.1 = m.c0 then (if P then ((g17 n m).bind fun v36 => if v36 = 0 then (if v18.2 = 0 then (if P then ((g23 n (⟨v18.1.c0, v18.1.c1, v18.1.c2⟩ : S5) m).bind fun v42 => if v42 = true then K else (some false)) else none) else (some false)) else (if v18.2 = 2 then ((g23 n (⟨v18.1.c0, v18.1.c1, v18.1.c2⟩ : S5) (⟨0, 0, ([] : List S1)⟩ : S5)).bind fun v46 => if v46 = true then K else (some false)) else (some false))) else none) else (some false)) else none) else (some false)) else none) else none) = K := by
 obtain ⟨v, e1, e2⟩ := valid_ok n (by omega) m h.l
 have hl := h.l
 have hL := (encM_len h).1
 have e3 := read_ok n (encM m) (by omega)
 have e4 : g40 n ⟨encM m, 0⟩ = some (m.c0, ⟨_, 0⟩) := g40_vi n _ h.c0 (by omega)
 have e5 := g37_enc n hn hn2 m h v e1
 simp only [if_pos hp, g36_enc n hn hn2 m h, Option.bind_some, e5, e3, g39_enc n hn hn2 m h, if_true, e4, e2]
 by_cases z : v = 0
 ·subst z
  simp only [if_true, Option.bind_some, etaS5, equal_refl n (by omega) m h.l]
 ·have hz : g23 n ZM (⟨0, 0, ([] : List S1)⟩ : S5) = some true := equal_refl n (by omega) ZM (by simp [ZM])
  simp only [if_neg z, Option.bind_some, etaS5, hz, if_true]
theorem l6_0_ok (a3 : Int) (a5 : List Int) (a6 : Int) (v4 v8 : S5) (h4 : okM v4) (h8 : okM v8) (h4l : v4.c2.length ≤ 105) (h5 : ∀ x, x ∈ a5 → (0 : Int) ≤ x ∧ x < 256) (h6 : (0 : Int) ≤ a6 ∧ a6 < 256) :
  ∀ (k i : Nat), 2 - i < k → i ≤ 2 → l6_0 n a3 a5 a6 v4 v8 k (i : Int) = some true
 | 0, _, h, _ => by omega
 | k + 1, i, hk, hi => by
  unfold l6_0
  by_cases c : i < 2
  ·have hm : okM (rd ([(⟨v4.c0, v4.c1, v4.c2⟩ : S5), (⟨v8.c0, v8.c1, v8.c2⟩ : S5)] : List S5) (i : Int)) := by
    have := mem_rd ([(⟨v4.c0, v4.c1, v4.c2⟩ : S5), (⟨v8.c0, v8.c1, v8.c2⟩ : S5)] : List S5) i (by simpa using c)
    simp only [List.mem_cons, List.not_mem_nil, or_false] at this
    rcases this with e | e <;> rw [e] <;> assumption
   rw [if_pos (show (i : Int) < 2 by omega), wsucc i (by omega)]
   refine (stepA n hn hn2 _ hm _ (0 ≤ (i : Int) ∧ (i : Int) < 2) (by omega)).trans ?_
   exact l6_0_ok a3 a5 a6 v4 v8 h4 h8 h4l h5 h6 k (i + 1) (by omega) (by omega)
  ·have hL := encM_len h4
   have hu := encM_u8 h4
   rw [if_neg (by omega), show (⟨v4.c0, v4.c1, v4.c2⟩ : S5) = v4 from rfl, g39_enc n hn hn2 v4 h4]
   generalize encM v4 = e at hL hu
   obtain ⟨j, ej, j0, j1⟩ := g15_ok n a3 (e.length : Int) (by omega) (by omega)
   simp only [Option.bind_some, ej]
   have w1 : IntKind.i64.wrap (j + 1) = j + 1 := wrap_i64 (by omega) (by omega)
   have ht : (List.take (Int.toNat j) e).length ≤ e.length := List.length_take_le' ..
   have hd : (List.drop (Int.toNat (IntKind.i64.wrap (j + 1))) e).length ≤ e.length := by simp
   have h60 : (if 60 < (a5.length : Int) then (60 : Int) else (a5.length : Int)) = ((min 60 a5.length : Nat) : Int) := by split <;> omega
   rw [if_pos (by omega), if_pos ⟨j0, j1⟩, if_pos (by omega), if_pos (by omega), if_pos (by rw [w1]; omega), if_pos (by omega), if_pos (by omega), if_pos (by rw [h60]; omega), if_pos (by omega), if_pos (by omega)]
   refine l6_1_ok n hn hn2 a5 a6 e j (fun b hb => ?_) n 0 (by omega) (by omega)
   simp only [List.mem_cons, List.not_mem_nil, or_false] at hb
   rcases hb with rfl | rfl | rfl | rfl
   ·refine g37_tot n hn hn2 _ ?_ (fun x hx => h5 x (List.mem_of_mem_take hx))
    rw [h60, Int.toNat_natCast, List.length_take]; omega
   ·refine g37_tot n hn hn2 _ (by rw [List.length_set]; omega) (fun x hx => ?_)
    rcases List.mem_or_eq_of_mem_set hx with hx | rfl
    ·exact hu x hx
    ·exact h6
   ·refine g37_tot n hn hn2 _ (by rw [List.length_append, List.length_take, List.length_drop, w1]; omega) (fun x hx => ?_)
    rcases List.mem_append.1 hx with hx | hx
    ·exact hu x (List.mem_of_mem_take hx)
    ·exact hu x (List.mem_of_mem_drop hx)
   ·refine g37_tot n hn hn2 _ (by simp; omega) (fun x hx => ?_)
    rcases List.mem_append.1 hx with hx | hx
    ·exact hu x hx
    ·rw [List.mem_singleton.1 hx]; exact h6
end
theorem pureMB (a0 a1 : Int) (a2 : List Int) (a3 a4 : Int) (a5 : List Int) (a6 : Int) (_ : isI64 a0) (_ : isI64 a1) (_ : ∀ n, n ∈ a2 → isI64 n) (_ : isI64 a3) (h4 : isI64 a4) (h5 : ∀ x, x ∈ a5 → (0 : Int) ≤ x ∧ x < 256) (h6 : (0 : Int) ≤ a6 ∧ a6 < 256) : ∃ n, g6 n a0 a1 a2 a3 a4 a5 a6 = some true := by
 refine ⟨4000, ?_⟩
 have hn : 4000 ≤ 4000 := Nat.le_refl _
 have hn2 : 4000 < 1000000 := by omega
 generalize hN : 4000 = n at *
 have hn : 4000 ≤ n := by omega
 clear hN
 obtain ⟨w, e1, w1⟩ := number1 n a0 11 (by omega) (by omega)
 obtain ⟨h, e2, h1⟩ := number1 n a1 11 (by omega) (by omega)
 obtain ⟨m, e3, m1⟩ := g12_ok n hn w h (List.take (Int.toNat (if 3 < (a2.length : Int) then 3 else (a2.length : Int))) a2) w1 h1
 obtain ⟨p, e5, p1⟩ := g14_ok n m a3 a4 m1
 have km := g12_okr n w h _ ⟨by omega, by omega⟩ ⟨by omega, by omega⟩ m e3
 have kp := g14_okr n m a3 a4 km h4 p e5
 have h3 : (if 3 < (a2.length : Int) then (3 : Int) else (a2.length : Int)) = ((min 3 a2.length : Nat) : Int) := by split <;> omega
 unfold g6 g13
 rw [if_pos (by rw [h3]; omega)]
 simp only [etaS5, e1, e2, e3, e5, Option.bind_some]
 exact l6_0_ok n hn hn2 a3 a5 a6 m p ⟨km.1, km.2.1, by omega, km.2.2⟩ ⟨kp.1, kp.2.1, by omega, kp.2.2⟩ (by omega) h5 h6 n 0 (by omega) (by omega)
end Go.Av
end
