/- the plain law, part 16 -/
import Derived.Test.YtcgndadlcgnilaaGreatP15
set_option autoImplicit false
set_option linter.unusedSimpArgs false
set_option linter.unusedVariables false
set_option linter.unnecessarySimpa false
section
namespace Go.Av
theorem fl_ge (f : Int → List Int) : ∀ (a : List Int), (∀ x, 1 ≤ (f x).length) → a.length ≤ (fl f a).length
 | [], _ => by simp
 | x :: a, h => by
  rw [fl_cons]
  have h1 := h x
  have h2 := fl_ge f a h
  simp; omega
theorem g29_vi (n : Nat) {a : Int} (rest : List Int) (h : isI64 a) (hn : 10 ≤ n) : g29 n ⟨vi a ++ rest, 0⟩ = some (a, ⟨rest, 0⟩) := g29_vu n rest h hn
theorem g54_vw (n : Nat) {a : Int} (rest : List Int) (h : isU64 a) (hn : 10 ≤ n) : g54 n ⟨vw a ++ rest, 0⟩ = some (a, ⟨rest, 0⟩) := by
 obtain ⟨h1, h2⟩ := h
 have := g54_vu n a.toNat rest (by omega) hn
 rwa [Int.toNat_of_nonneg h1] at this
theorem rd_in (a : List Int) (i : Nat) (h : i < a.length) : rd a (i : Int) ∈ a := by
 rw [show rd a (i : Int) = a[i] by simp [rd, h]]; exact List.getElem_mem h
theorem usucc (i : Nat) (h : i < 1000000) : IntKind.u64.wrap ((i : Int) + 1) = ((i + 1 : Nat) : Int) := by
 rw [wrap_u64 (by omega) (by omega)]; omega
theorem l83_rd (n : Nat) (hn : 10 ≤ n) (v : Int × S9) (a rest : List Int) (ha : ∀ x, x ∈ a → isI64 x) (hl : a.length < 1000000) (hv : v.1 = (a.length : Int)) : ∀ (k i : Nat) (acc : List Int), i ≤ a.length → a.length - i < k → acc.length = i →
  l83_0_1 n v k acc (i : Int) (fl vi (a.drop i) ++ rest) 0 = some (acc ++ a.drop i, ⟨rest, 0⟩)
 | 0, _, _, _, h, _ => by omega
 | k + 1, i, acc, h1, h2, h3 => by
  unfold l83_0_1
  by_cases h : i < a.length
  ·rw [if_pos (by omega), if_pos rfl, drop_cons a i h, fl_cons, List.append_assoc, g29_vi n _ (ha _ (rd_in a i h)) hn, Option.bind_some, if_pos (by omega), usucc i (by omega)]
   rw [l83_rd n hn v a rest ha hl hv k (i + 1) _ (by omega) (by omega) (by simp [h3])]
   simp
  ·rw [if_neg (by omega), if_pos rfl, List.drop_eq_nil_of_le (by omega), fl_nil, List.append_nil, List.nil_append]
theorem g53_vis (n : Nat) (a rest : List Int) (ha : ∀ x, x ∈ a → isI64 x) (hl : a.length < 1000000) (hn : 10 ≤ n) (hk : a.length < n) (hr : rest.length < 1000000) : g53 n ⟨vis a ++ rest, 0⟩ = some (a, ⟨rest, 0⟩) := by
 have hf := fl_len vi a (fun x hx => vi_len (ha x hx))
 have hg := fl_ge vi a (fun x => vu_pos _)
 have hw : IntKind.u64.wrap (((fl vi a ++ rest).length : Nat) : Int) = (((fl vi a ++ rest).length : Nat) : Int) := wrap_u64 (by omega) (by simp; omega)
 have h := l83_rd n hn ((a.length : Int), ⟨fl vi a ++ rest, 0⟩) a rest ha hl rfl n 0 [] (by omega) (by omega) rfl
 simp only [List.drop_zero, List.nil_append] at h
 rw [show ((0 : Nat) : Int) = 0 from rfl] at h
 unfold g53 g83_0 vis
 rw [List.append_assoc, g54_vu n _ _ (by omega) hn]
 simp only [Option.bind_some, hw]
 rw [if_neg (by simp; omega), h, Option.bind_some]
section
variable (n : Nat) (a0 : List Int) (v4 v6 : Int × S9) (v8 v10 : List Int × S9) (v : Int × S9) (y z : List Int) (a rest : List Int)
theorem l25_0_rd (hn : 10 ≤ n) (ha : ∀ x, x ∈ a → isU64 x) (hl : a.length < 1000000) (hv : v.1 = (a.length : Int)) (h0 : a.length ≤ a0.length) : ∀ (k i : Nat) (acc : List Int), i ≤ a.length → a.length - i < k → acc.length = i →
  l25_0 n a0 v4 v6 v8 v10 v k (i : Int) (fl vw (a.drop i) ++ rest) 0 acc = (g29 n ⟨rest, 0⟩).bind fun v122 => l25_4 n a0 v4 v6 v8 v10 (acc ++ a.drop i) v122 n 0 v122.2.c0 v122.2.c1 []
 | 0, _, _, _, h, _ => by omega
 | k + 1, i, acc, h1, h2, h3 => by
  unfold l25_0
  by_cases h : i < a.length
  ·rw [if_pos (by omega), if_pos (by omega), drop_cons a i h, fl_cons, List.append_assoc, g54_vw n _ (ha _ (rd_in a i h)) hn, Option.bind_some, if_pos (by omega), wsucc i (by omega)]
   rw [l25_0_rd hn ha hl hv h0 k (i + 1) _ (by omega) (by omega) (by simp [h3])]
   simp
  ·rw [if_neg (by omega), List.drop_eq_nil_of_le (by omega), fl_nil, List.append_nil, List.nil_append]
theorem l25_4_rd (hn : 10 ≤ n) (ha : ∀ x, x ∈ a → isU64 x) (hl : a.length < 1000000) (hv : v.1 = (a.length : Int)) (h0 : a.length ≤ a0.length) : ∀ (k i : Nat) (acc : List Int), i ≤ a.length → a.length - i < k → acc.length = i →
  l25_4 n a0 v4 v6 v8 v10 y v k (i : Int) (fl vw (a.drop i) ++ rest) 0 acc = (g29 n ⟨rest, 0⟩).bind fun v122 => l25_6 n a0 v4 v6 v8 v10 y (acc ++ a.drop i) v122 n 0 v122.2.c0 v122.2.c1 []
 | 0, _, _, _, h, _ => by omega
 | k + 1, i, acc, h1, h2, h3 => by
  unfold l25_4
  by_cases h : i < a.length
  ·rw [if_pos (by omega), if_pos (by omega), drop_cons a i h, fl_cons, List.append_assoc, g54_vw n _ (ha _ (rd_in a i h)) hn, Option.bind_some, if_pos (by omega), wsucc i (by omega)]
   rw [l25_4_rd hn ha hl hv h0 k (i + 1) _ (by omega) (by omega) (by simp [h3])]
   simp
  ·rw [if_neg (by omega), List.drop_eq_nil_of_le (by omega), fl_nil, List.append_nil, List.nil_append]
end
end Go.Av
end
