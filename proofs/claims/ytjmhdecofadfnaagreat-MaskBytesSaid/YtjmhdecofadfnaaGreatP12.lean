/- the plain law, part 12 -/
import Derived.Test.YtjmhdecofadfnaaGreatP11
set_option autoImplicit false
set_option linter.unusedSimpArgs false
set_option linter.unusedVariables false
set_option linter.unnecessarySimpa false
section
namespace Go.Av
theorem okr_def : okr (default : S1) := ⟨⟨by decide, by decide⟩, ⟨by decide, by decide⟩, ⟨by decide, by decide⟩⟩
theorem okr_rdn {l : List S1} (h : ∀ r, r ∈ l → okr r) (i : Nat) : okr (rdn l i) := by
 unfold rdn
 rw [List.getD_eq_getElem?_getD]
 cases q : l[i]? with
 | none => exact okr_def
 | some x => exact h x (List.mem_of_getElem? q)
theorem okr_set {l : List S1} {x : S1} (h : ∀ r, r ∈ l → okr r) (hx : okr x) (i : Nat) : ∀ r, r ∈ l.set i x → okr r := fun r hr => by
 rcases List.mem_or_eq_of_mem_set hr with hr | rfl
 ·exact h r hr
 ·exact hx
theorem okr_set3 {l : List S1} (h : ∀ r, r ∈ l → okr r) {a b c : Int} (ha : isI64 a) (hb : isI64 b) (hc : isI64 c) (i : Nat) : ∀ r, r ∈ l.set i (⟨a, b, c⟩ : S1) → okr r :=
 okr_set (x := ⟨a, b, c⟩) h ⟨ha, hb, hc⟩ i
theorem okr_app {l : List S1} {x : S1} (h : ∀ r, r ∈ l → okr r) (hx : okr x) : ∀ r, r ∈ l ++ [x] → okr r := fun r hr => by
 rcases List.mem_append.1 hr with hr | hr
 ·exact h r hr
 ·rw [List.mem_singleton.1 hr]; exact hx
def okf (m : S5) : Prop := isI64 m.c0 ∧ isI64 m.c1 ∧ ∀ r, r ∈ m.c2 → okr r
theorem l53_1_okr (n : Nat) (R : Int → List S1 → Option S5) (a0 : S3) (y : Int) (hy : isI64 y) (hR : ∀ x runs m, isI64 x → (∀ r, r ∈ runs → okr r) → R x runs = some m → okf m) : ∀ (k : Nat) (x : Int) (runs : List S1) (m : S5), isI64 x → (∀ r, r ∈ runs → okr r) → l53_1 n R a0 y k x runs = some m → okf m
 | 0, _, _, _, _, _, h => by simp [l53_1] at h
 | k + 1, x, runs, m, hx, hr, h => by
  have IH := fun runs' (q : ∀ r, r ∈ runs' → okr r) (h : l53_1 n R a0 y k (IntKind.i64.wrap (x + 1)) runs' = some m) => l53_1_okr n R a0 y hy hR k _ runs' m (wrap_i64_range _) q h
  unfold l53_1 at h
  repeat' (split at h)
  all_goals first
   | (cases h; done)
   | (refine IH _ ?_ h; exact okr_set3 hr (okr_rdn hr _).1 (okr_rdn hr _).2.1 (wrap_i64_range _) _)
   | (refine IH _ ?_ h; exact okr_app hr ⟨hy, hx, wrap_i64_range _⟩)
   | exact IH _ hr h
   | exact hR _ _ _ (wrap_i64_range _) hr h
theorem l53_0_okr (n : Nat) (a0 : S3) (h0 : isI64 a0.c0) (h1 : isI64 a0.c1) : ∀ (k : Nat) (y : Int) (runs : List S1) (m : S5), isI64 y → (∀ r, r ∈ runs → okr r) → l53_0 n a0 k y runs = some m → okf m
 | 0, _, _, _, _, _, h => by simp [l53_0] at h
 | k + 1, y, runs, m, hy, hr, h => by
  unfold l53_0 at h
  split at h
  ·exact l53_1_okr n (l53_0 n a0 k) a0 y hy (fun x runs m q1 q2 q3 => l53_0_okr n a0 h0 h1 k x runs m q1 q2 q3) n 0 runs m ⟨by decide, by decide⟩ hr h
  ·cases h; exact ⟨h0, h1, hr⟩
theorem g53_okr (n : Nat) (a0 : S3) (h0 : isI64 a0.c0) (h1 : isI64 a0.c1) (m : S5) (h : g53 n a0 = some m) : okf m :=
 l53_0_okr n a0 h0 h1 n 0 [] m ⟨by decide, by decide⟩ (by simp) h
theorem l12_okr (n : Nat) (a0 a1 : Int) (a2 : List Int) (h0 : isI64 a0) (h1 : isI64 a1) : ∀ (k : Nat) (x : Int) (B : List Bool) (m : S5), l12_0 n a0 a1 a2 k x B = some m → okf m
 | 0, _, _, _, h => by simp [l12_0] at h
 | k + 1, x, B, m, h => by
  have G : ((g53 n (⟨a0, a1, B⟩ : S3)).bind fun v => some (⟨v.c0, v.c1, v.c2⟩ : S5)) = some m → okf m := fun h => by
   obtain ⟨v, e, h⟩ := Option.bind_eq_some_iff.1 h
   cases h
   exact g53_okr n _ h0 h1 v e
  unfold l12_0 at h
  repeat' (split at h)
  all_goals first
   | (cases h; done)
   | exact l12_okr n a0 a1 a2 h0 h1 k _ _ m h
   | exact G h
theorem g12_okr (n : Nat) (a0 a1 : Int) (a2 : List Int) (h0 : isI64 a0) (h1 : isI64 a1) (m : S5) (h : g12 n a0 a1 a2 = some m) : okf m := by
 unfold g12 at h
 split at h
 ·exact l12_okr n a0 a1 a2 h0 h1 n _ _ m h
 ·cases h
theorem g14_okr (n : Nat) (m : S5) (at_ v : Int) (hm : okf m) (hv : isI64 v) (r : S5) (h : g14 n m at_ v = some r) : okf r := by
 obtain ⟨m0, m1, m2⟩ := hm
 have N : ∀ {c : Prop} [Decidable c] {o : Option S5}, (if c then o else none) = some r → o = some r := by
  intro c _ o h
  by_cases q : c
  ·rwa [if_pos q] at h
  ·rw [if_neg q] at h; cases h
 unfold g14 at h
 replace h := N h
 ·obtain ⟨x, _, h⟩ := Option.bind_eq_some_iff.1 h
  have B : ∀ r, (if Int.tmod x 2 = 0 then (some (⟨v, m.c1, m.c2⟩ : S5)) else (some (⟨m.c0, v, m.c2⟩ : S5))) = some r → okf r := fun r h => by
   split at h
   ·cases h; exact ⟨hv, m1, m2⟩
   ·cases h; exact ⟨m0, hv, m2⟩
  by_cases k1 : x < 2
  ·rw [if_pos k1] at h; exact B r h
  ·rw [if_neg k1] at h
   by_cases k2 : (m.c2.length : Int) = 0
   ·rw [if_pos k2] at h; exact B r h
   ·rw [if_neg k2] at h
    obtain ⟨y, _, h⟩ := Option.bind_eq_some_iff.1 h
    by_cases q2 : x = 2
    ·rw [if_pos q2] at h
     replace h := N (N h)
     cases h; exact ⟨m0, m1, okr_set3 m2 hv (okr_rdn m2 _).2.1 (okr_rdn m2 _).2.2 _⟩
    rw [if_neg q2] at h
    by_cases q3 : x = 3
    ·rw [if_pos q3] at h
     replace h := N (N h)
     cases h; exact ⟨m0, m1, okr_set3 m2 (okr_rdn m2 _).1 hv (okr_rdn m2 _).2.2 _⟩
    rw [if_neg q3] at h
    by_cases q4 : x = 4
    ·rw [if_pos q4] at h
     replace h := N (N h)
     cases h; exact ⟨m0, m1, okr_set3 m2 (okr_rdn m2 _).1 (okr_rdn m2 _).2.1 hv _⟩
    rw [if_neg q4] at h
    by_cases q5 : x = 5
    ·rw [if_pos q5] at h
     replace h := N (N (N h))
     cases h; exact ⟨m0, m1, okr_app m2 (okr_rdn m2 _)⟩
    rw [if_neg q5] at h
    replace h := N (N (N (N h)))
    cases h; exact ⟨m0, m1, okr_set3 m2 (okr_rdn m2 _).1 (okr_rdn m2 _).2.1 (wrap_i64_range _) _⟩
theorem l23_refl (n : Nat) (a : S5) (hl : a.c2.length ≤ 3200) : ∀ (k i : Nat), a.c2.length - i < k → i ≤ a.c2.length → l23_0 n a a k (i : Int) = some true
 | 0, _, h, _ => by omega
 | k + 1, i, hk, hi => by
  unfold l23_0
  by_cases c : i < a.c2.length
  ·rw [if_pos (by omega), if_pos (by omega), if_pos (by omega), if_pos ⟨rfl, rfl, rfl⟩, wsucc i (by omega)]
   exact l23_refl n a hl k (i + 1) (by omega) (by omega)
  ·rw [if_neg (by omega)]
theorem equal_refl (n : Nat) (hn : 4000 ≤ n) (a : S5) (hl : a.c2.length ≤ 3200) : g23 n a a = some true := by
 unfold g23
 rw [if_pos rfl, if_pos rfl, if_pos rfl]
 exact l23_refl n a hl n 0 (by omega) (by omega)
theorem encM_u8 {m : S5} (h : okM m) : ∀ b, b ∈ encM m → (0 : Int) ≤ b ∧ b < 256 := fun b hb => by
 have hl := h.l
 simp only [encM, List.mem_append] at hb
 rcases hb with hb | hb | hb | hb
 ·exact vi_u8 h.c0 b hb
 ·exact vi_u8 h.c1 b hb
 ·exact vi_u8 ⟨by omega, by omega⟩ b hb
 ·obtain ⟨l, hl, hb⟩ := List.mem_flatten.1 hb
  obtain ⟨r, hr, rfl⟩ := List.mem_map.1 hl
  obtain ⟨r0, r1, r2⟩ := h.r r hr
  simp only [vr, List.mem_append] at hb
  rcases hb with hb | hb | hb
  ·exact vi_u8 r0 b hb
  ·exact vi_u8 r1 b hb
  ·exact vi_u8 r2 b hb
theorem g15_ok (n : Nat) (a m : Int) (hm : 0 < m) (hm2 : m < 4611686018427387904) : ∃ v, g15 n a m = some v ∧ 0 ≤ v ∧ v < m := by
 have h1 : Int.tmod a m < m := Int.tmod_lt_of_pos _ hm
 have h2 : -m < Int.tmod a m := by
  by_cases h : 0 ≤ a
  ·have := Int.tmod_nonneg m h; omega
  ·have e : Int.tmod a m = -(Int.tmod (-a) m) := by rw [Int.neg_tmod, Int.neg_neg]
   have := Int.tmod_lt_of_pos (-a) hm
   omega
 unfold g15
 rw [if_pos (by omega), if_pos (by omega), wrap_i64 (by omega) (by omega)]
 exact ⟨_, rfl, Int.tmod_nonneg _ (by omega), Int.tmod_lt_of_pos _ hm⟩
/-- one of the byte slices -/
theorem stepM (n : Nat) (hn : 4000 ≤ n) (hn2 : n < 1000000) (b : List Int) (K : Option Bool) (h : EDM n b (g37 n b)) :
  ((g37 n b).bind fun v => if v.2 = 0 then ((g17 n v.1).bind fun w => if w = 0 then ((g39 n v.1).bind fun z => if (strOf z) = (strOf b) then (if v.2 = 0 then K else (if v.2 = 2 then ((g23 n v.1 (⟨0, 0, ([] : List S1)⟩ : S5)).bind fun u => if u = true then K else (some false)) else (some false))) else (some false)) else (some false))
   else (if v.2 = 0 then K else (if v.2 = 2 then ((g23 n v.1 (⟨0, 0, ([] : List S1)⟩ : S5)).bind fun u => if u = true then K else (some false)) else (some false)))) = K := by
 obtain ⟨r, c, e, ⟨rfl, hr, hv, hs⟩ | ⟨rfl, rfl⟩⟩ := h
 ·obtain ⟨w, h1, h2⟩ := valid_ok n hn r hr.l
  rw [hv] at h1; cases h1
  rw [e]
  simp only [Option.bind_some, if_true, h2, g39_enc n hn hn2 r hr, hs]
 ·rw [e]
  have hz : g23 n ZM (⟨0, 0, ([] : List S1)⟩ : S5) = some true := equal_refl n hn ZM (by simp [ZM])
  simp only [Option.bind_some, hz, if_true]
  rw [if_neg (by decide), if_neg (by decide)]
end Go.Av
end
