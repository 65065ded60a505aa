/- the plain law, part 16 -/
import Derived.Test.YtahhhfgmcdajhaaP15
set_option autoImplicit false
set_option linter.unusedSimpArgs false
set_option linter.unusedVariables false
set_option linter.unnecessarySimpa false
section
set_option linter.unusedSimpArgs false
set_option linter.unusedVariables false
set_option maxHeartbeats 4000000
set_option maxRecDepth 10000
namespace Go.Av
theorem g11_rng (n : Nat) {a b : Int} (ha : isI64 a) (hb : 0 < b) : ∃ v, g11 n a b = some v ∧ 0 ≤ v ∧ v < b := g11_rng' n a b ha hb
theorem rd_mem {l : List Int} {i : Int} (h : 0 ≤ i ∧ i < (l.length : Int)) : rd l i ∈ l := by
 obtain ⟨k, rfl⟩ := Int.eq_ofNat_of_zero_le h.1
 have hk : k < l.length := by omega
 have : rd l ((k : Nat) : Int) = l[k] := by simp [rd, hk]
 rw [this]; exact List.getElem_mem hk
/-- what a script's operations keep -/
structure OpOk (o : S10) : Prop where
 k0 : 0 ≤ o.c0 ∧ o.c0 ≤ 4
 k1 : 0 ≤ o.c1 ∧ o.c1 ≤ 9
 k2 : (o.c0 = 0 ∧ -1 ≤ o.c2 ∧ o.c2 ≤ 11) ∨ (o.c0 ≠ 0 ∧ 0 ≤ o.c2 ∧ o.c2 < 64)
 k3 : o.c3.length = 2
 k4 : -1 ≤ o.c4 ∧ o.c4 ≤ 3
theorem iteBoth {c : Prop} [Decidable c] {x y : Option (List S10)} {P : List S10 → Prop} {N : Nat} (hx : ∃ r, x = some r ∧ r.length ≤ N ∧ P r) (hy : ∃ r, y = some r ∧ r.length ≤ N ∧ P r) : ∃ r, (if c then x else y) = some r ∧ r.length ≤ N ∧ P r := by
 split
 ·exact hx
 ·exact hy
theorem l18_ok {n : Nat} {a0 : List Int} {N : Nat} (he : ∀ x, x ∈ a0 → isI64 x) (h1 : N ≤ 100000) : ∀ (f : Nat) (x1 : List S10), N + 1 - x1.length < f → (∀ o, o ∈ x1 → OpOk o) → x1.length ≤ N →
  ∃ r, l18_0 n a0 (N : Int) f x1 ((2 * x1.length : Nat) : Int) = some r ∧ r.length ≤ N ∧ ∀ o, o ∈ r → OpOk o := by
 intro f
 induction f with
 | zero => intro x1 hf; omega
 | succ f ih =>
  intro x1 hf hx hl
  rw [l18_0]
  have w1 : IntKind.i64.wrap (((2 * x1.length : Nat) : Int) + 1) = ((2 * x1.length + 1 : Nat) : Int) := by rw [wrap_i64 (by omega) (by omega)]; rfl
  have w2 : IntKind.i64.wrap (((2 * x1.length : Nat) : Int) + 2) = ((2 * (x1.length + 1) : Nat) : Int) := by rw [wrap_i64 (by omega) (by omega)]; omega
  rw [w1, w2]
  by_cases c1 : ((2 * x1.length + 1 : Nat) : Int) < (a0.length : Int)
  ·by_cases c2 : (x1.length : Int) < (N : Int)
   ·rw [if_pos c1, if_pos c2, if_pos (by omega)]
    obtain ⟨v, e1, v0, v1⟩ := g11_rng n (he _ (rd_mem (i := ((2 * x1.length : Nat) : Int)) (by omega))) (show (0 : Int) < 16777216 by omega)
    obtain ⟨u, e2, u0, u1⟩ := g11_rng n (he _ (rd_mem (i := ((2 * x1.length + 1 : Nat) : Int)) (by omega))) (show (0 : Int) < 16777216 by omega)
    rw [e1, Option.bind_some, if_pos (by omega), e2, Option.bind_some]
    have a1' : 0 ≤ Int.tmod u 13 := Int.tmod_nonneg _ u0
    have a2' := Int.tmod_lt_of_pos u (show (0 : Int) < 13 by omega)
    have b1 : 0 ≤ Int.tmod u 64 := Int.tmod_nonneg _ u0
    have b2 := Int.tmod_lt_of_pos u (show (0 : Int) < 64 by omega)
    have hw : IntKind.i64.wrap (Int.tmod u 13 - 1) = Int.tmod u 13 - 1 := wrap_i64 (by omega) (by omega)
    have d0 : 0 ≤ Int.tdiv v 16 := Int.tdiv_nonneg v0 (by omega)
    have d1 : Int.tdiv v 16 ≤ v := Int.tdiv_le_self _ v0
    have d2 : 0 ≤ Int.tdiv u 64 := Int.tdiv_nonneg u0 (by omega)
    have d3 : Int.tdiv u 64 ≤ u := Int.tdiv_le_self _ u0
    have hw3 : IntKind.i64.wrap (Int.tdiv v 16) = Int.tdiv v 16 := wrap_i64 (by omega) (by omega)
    have hw4 : IntKind.i64.wrap (Int.tdiv u 64) = Int.tdiv u 64 := wrap_i64 (by omega) (by omega)
    have f1 : 0 ≤ Int.tmod (Int.tdiv v 16) 4 := Int.tmod_nonneg _ d0
    have f2 := Int.tmod_lt_of_pos (Int.tdiv v 16) (show (0 : Int) < 4 by omega)
    have f3 : 0 ≤ Int.tmod (Int.tdiv u 64) 4 := Int.tmod_nonneg _ d2
    have f4 := Int.tmod_lt_of_pos (Int.tdiv u 64) (show (0 : Int) < 4 by omega)
    rw [hw, hw3, hw4]
    have fin : ∀ o : S10, OpOk o → ∃ r, (if x1.length + 1 ≤ 2513169434916 then ((l18_0 n a0 (N : Int) f) (x1 ++ [o]) ((2 * (x1.length + 1) : Nat) : Int)) else none) = some r ∧ r.length ≤ N ∧ ∀ o, o ∈ r → OpOk o := by
     intro o ho
     rw [if_pos (by omega)]
     have := ih (x1 ++ [o]) (by simp; omega) (fun p hp => by
      rcases List.mem_append.1 hp with hp | hp
      ·exact hx p hp
      ·rw [List.mem_singleton.1 hp]; exact ho) (by simp; omega)
     rw [List.length_append, List.length_singleton] at this
     exact this
    have mk : ∀ (k w m wt : Int) (b : List Int), (0 ≤ k ∧ k ≤ 4) → (0 ≤ w ∧ w ≤ 9) → ((k = 0 ∧ -1 ≤ m ∧ m ≤ 11) ∨ (k ≠ 0 ∧ 0 ≤ m ∧ m < 64)) → b.length = 2 → (-1 ≤ wt ∧ wt ≤ 3) → OpOk ⟨k, w, m, b, wt⟩ := fun _ _ _ _ _ h1 h2 h3 h4 h5 => ⟨h1, h2, h3, h4, h5⟩
    repeat' (first | exact fin _ (mk _ _ _ _ _ (by omega) (by omega) (by omega) rfl (by omega)) | (apply iteBoth))
   ·rw [if_pos c1, if_neg c2]; exact ⟨x1, rfl, hl, hx⟩
  ·rw [if_neg c1]; exact ⟨x1, rfl, hl, hx⟩
theorem g18_ok {n : Nat} {a0 : List Int} {N : Nat} (hn : N + 1 < n) (he : ∀ x, x ∈ a0 → isI64 x) (h1 : N ≤ 100000) : ∃ r, g18 n a0 (N : Int) = some r ∧ r.length ≤ N ∧ ∀ o, o ∈ r → OpOk o := by
 unfold g18
 exact l18_ok (n := n) he h1 n [] (by simp; omega) (fun o h => by cases h) (by simp)
theorem lives_n (n : Nat) : g16 n = some true := by
 have h := lives_ok
 unfold g16 at h ⊢
 exact h
end Go.Av
end
