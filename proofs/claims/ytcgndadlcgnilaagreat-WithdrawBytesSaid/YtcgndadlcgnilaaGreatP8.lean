/- the plain law, part 8 -/
import Derived.Test.YtcgndadlcgnilaaGreatP7
set_option autoImplicit false
set_option linter.unusedSimpArgs false
set_option linter.unusedVariables false
set_option linter.unnecessarySimpa false
section
namespace Go.Av
def er (c : Int) : S8 × Int := (⟨0, 0, [], [], [], [], []⟩, c)
def fit (a b : S2) (t : Int) : Bool := a.c6 && !b.c6 && decide (a.c1 = b.c1) && decide (a.c2 = b.c2) && decide (a.c4 = b.c4) && decide (b.c3 = t)
def fits (a b : List S2) (t : Int) : Bool := (a.zip b).all fun p => fit p.1 p.2 t
def sm (n : Nat) (p : List S1) : Int := (g23 n p).getD 0
def okPs (ps : List (List S1)) : Prop := ∀ p, p ∈ ps → p.length ≤ 900 ∧ ∀ s, s ∈ p → okP s
theorem sm_ok (n : Nat) (hn : 1000 ≤ n) (ps : List (List S1)) (h : okPs ps) (p : List S1) (hp : p ∈ ps) : g23 n p = some (sm n p) ∧ g39 n p = some (sm n p) := by
 obtain ⟨r, h1, h2⟩ := psum n hn p (h p hp).1 (h p hp).2
 have : sm n p = r := by unfold sm; rw [h1]; rfl
 rw [this]; exact ⟨h1, h2⟩
theorem fits_cons (a b : List S2) (t : Int) (i : Nat) (ha : i < a.length) (hb : i < b.length) : fits (a.drop i) (b.drop i) t = (fit (rd a (i : Int)) (rd b (i : Int)) t && fits (a.drop (i + 1)) (b.drop (i + 1)) t) := by
 rw [drop_cons a i ha, drop_cons b i hb]; rfl
theorem g38_fit (n : Nat) (a b : S2) (t : Int) : g38 n a b t = some (fit a b t) := by
 unfold g38 fit
 by_cases q1 : a.c6 = true
 ·by_cases q2 : b.c6 = true
  ·simp [q1, q2]
  ·by_cases q3 : a.c1 = b.c1
   ·by_cases q4 : a.c2 = b.c2
    ·by_cases q5 : a.c4 = b.c4
     ·simp [q1, q2, q3, q4, q5]
     ·simp [q1, q2, q3, q4, q5]
    ·simp [q1, q2, q3, q4]
   ·simp [q1, q2, q3]
 ·simp [q1]
theorem etaS2 (s : S2) : (⟨s.c0, s.c1, s.c2, s.c3, s.c4, s.c5, s.c6⟩ : S2) = s := rfl
theorem l14_ok (n : Nat) (hn : 1000 ≤ n) (a0 a1 : Int) (a2 a3 : List S2) (a4 u v r : List Int) (ps : List (List S1)) (h2 : a2.length ≤ 12) (h3 : a3.length = a2.length) (hp : ps.length = a2.length) (ho : okPs ps) (h4 : a4.length ≤ 12) (hf : few ps) (hr : Inc r) (hm : ∀ x, x ∈ r ↔ x ∈ a4) :
  ∀ (k i : Nat) (z w : List Int), a2.length - i < k → i ≤ a2.length → z.length = i → w.length = i →
   l14_0 n a0 a1 a2 a3 a4 ps u v k (i : Int) z w = if fits (a2.drop i) (a3.drop i) a1 = true then
    (if nam ps a4 = true then some (er 17) else some (⟨a0, a1, u, v, r, z ++ (a3.drop i).map S2.c5, w ++ (ps.drop i).map (sm n)⟩, 0)) else some (er 1)
 | 0, _, _, _, h, _, _, _ => by omega
 | k + 1, i, z, w, hk, hi, hz, hw => by
  unfold l14_0
  by_cases c : i < a2.length
  ·rw [if_pos (by omega), if_pos (by omega), if_pos (by omega), etaS2, etaS2, g38_fit, fits_cons a2 a3 a1 i c (by omega)]
   have sk := sm_ok n hn ps ho _ (mem_rd ps i (by omega))
   have IH := l14_ok n hn a0 a1 a2 a3 a4 u v r ps h2 h3 hp ho h4 hf hr hm k (i + 1) (z ++ [(rd a3 (i : Int)).c5]) (w ++ [sm n (rd ps (i : Int))]) (by omega) (by omega) (by simp [hz]) (by simp [hw])
   simp only [List.append_assoc, List.singleton_append] at IH
   simp only [Option.bind_some, sk.2]
   by_cases q : fit (rd a2 (i : Int)) (rd a3 (i : Int)) a1 = true
   ·rw [if_pos q, if_pos (show z.length + 1 ≤ 17592186044416 by omega), if_pos (show w.length + 1 ≤ 17592186044416 by omega), if_pos (show (0 : Int) ≤ (i : Int) ∧ (i : Int) < (a3.length : Int) by omega), if_pos (show (0 : Int) ≤ (i : Int) ∧ (i : Int) < (ps.length : Int) by omega), wsucc i (by omega), IH, drop_cons a3 i (by omega), drop_cons ps i (by omega), q, Bool.true_and]
    rfl
   ·rw [if_neg q, Bool.eq_false_iff.2 q, Bool.false_and]; rfl
  ·rw [if_neg (by omega), g40_ok n hn ps a4 (by omega) hf]
   rw [List.drop_eq_nil_of_le (by omega), List.drop_eq_nil_of_le (by omega), List.drop_eq_nil_of_le (by omega)]
   simp only [Option.bind_some, List.map_nil, List.append_nil, fits, List.zip_nil_left, List.all_nil, if_true, er]
   obtain ⟨r', e, i1, i2, i3⟩ := l14_1_ok n hn a0 a1 a4 u v z w (by omega) n 0 [] (by omega) (by omega) (by simp) List.Pairwise.nil
   have : r' = r := inc_ext _ _ i1 hr fun x => by rw [i3 x, hm x]; simp
   subst this
   rw [show ((0 : Nat) : Int) = 0 from rfl] at e
   rw [e]
end Go.Av
end
