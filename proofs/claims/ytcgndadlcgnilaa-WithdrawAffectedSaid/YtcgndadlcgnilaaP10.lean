/- the plain law, part 10 -/
import Derived.Test.YtcgndadlcgnilaaP9
set_option autoImplicit false
set_option linter.unusedSimpArgs false
set_option linter.unusedVariables false
set_option linter.unnecessarySimpa false
section
namespace Go.Av
theorem l9_has (n : Nat) (a : List Int) (v : Int) (ha : a.length ≤ 900) : ∀ (k i : Nat), a.length - i < k → i ≤ a.length → l9_0 n a v k (i : Int) = some (decide (v ∈ a.drop i))
 | 0, _, h, _ => by omega
 | k + 1, i, hk, hi => by
  unfold l9_0
  by_cases c : i < a.length
  ·rw [if_pos (by omega), if_pos (by omega), wsucc i (by omega), l9_has n a v ha k (i + 1) (by omega) (by omega), drop_cons a i c]
   by_cases q : rd a (i : Int) = v
   ·rw [if_pos q]; simp [q]
   ·rw [if_neg q]
    have q' : ¬ v = rd a (i : Int) := fun h => q h.symm
    simp [q']
  ·rw [if_neg (by omega), List.drop_eq_nil_of_le (by omega)]; simp
theorem g9_has (n : Nat) (a : List Int) (v : Int) (ha : a.length ≤ 900) (hn : 1000 ≤ n) : g9 n a v = some (decide (v ∈ a)) := by
 have := l9_has n a v ha n 0 (by omega) (by omega)
 simpa [g9] using this
/-- the open versions that are named -/
def sel (ids : List Int) (l : List S2) : List Int := (l.filter fun v => !v.c6 && decide (v.c0 ∈ ids)).map S2.c0
theorem sel_cons (ids : List Int) (v : S2) (l : List S2) : sel ids (v :: l) = if v.c6 = true then sel ids l else if v.c0 ∈ ids then v.c0 :: sel ids l else sel ids l := by
 unfold sel
 by_cases h : v.c6 = true
 ·rw [if_pos h, List.filter_cons_of_neg (by simp [h])]
 ·rw [if_neg h]
  by_cases q : v.c0 ∈ ids
  ·rw [if_pos q, List.filter_cons_of_pos (by simp [h, q])]; rfl
  ·rw [if_neg q, List.filter_cons_of_neg (by simp [q])]
theorem sel_len (ids : List Int) (l : List S2) : (sel ids l).length ≤ l.length := by
 unfold sel
 rw [List.length_map]; exact List.length_filter_le _ _
theorem own6 (x : S2) : (own x).c7 = x.c6 ∧ (own x).c0 = x.c0 := ⟨rfl, rfl⟩
theorem l6_sel (n : Nat) (hn : 1000 ≤ n) (a : List S2) (ids : List Int) (ha : a.length ≤ 12) (hi : ids.length ≤ 900) : ∀ (k i : Nat) (acc : List Int), a.length - i < k → i ≤ a.length → acc.length ≤ i → l6_0_0 n (a.map own) ids k acc (i : Int) = g18 n (acc ++ sel ids (a.drop i))
 | 0, _, _, h, _, _ => by omega
 | k + 1, i, acc, hk, h1, h2 => by
  unfold l6_0_0
  by_cases c : i < a.length
  ·have IH := fun acc' (h : acc'.length ≤ i + 1) => l6_sel n hn a ids ha hi k (i + 1) acc' (by omega) (by omega) h
   rw [if_pos (by rw [List.length_map]; omega), if_pos (by rw [List.length_map]; omega), rd_own a i c, drop_cons a i c, sel_cons, wsucc i (by omega)]
   simp only [own6]
   by_cases h : (rd a (i : Int)).c6 = true
   ·rw [if_pos h, if_pos h, IH acc (by omega)]
   ·rw [if_neg h, if_neg h]
    unfold g8_0
    rw [g9_has n ids _ hi hn]
    simp only [Option.bind_some]
    by_cases q : (rd a (i : Int)).c0 ∈ ids
    ·rw [if_pos (decide_eq_true q), if_pos (by omega), if_pos q, IH _ (by simp; omega)]
     simp
    ·rw [if_neg (by simpa using q), if_neg q, IH acc (by omega)]
  ·rw [if_neg (by rw [List.length_map]; omega), List.drop_eq_nil_of_le (by omega)]
   have : sel ids [] = [] := rfl
   rw [this, List.append_nil]
   cases g18 n acc <;> rfl
theorem aff (n : Nat) (hn : 1000 ≤ n) (a : List S2) (ids : List Int) (ha : a.length ≤ 12) (hi : ids.length ≤ 900) : ∃ r, g6_0 n (a.map own) ids = some r ∧ Inc r ∧ ∀ x, x ∈ r ↔ x ∈ sel ids a := by
 have h := l6_sel n hn a ids ha hi n 0 [] (by omega) (by omega) (by simp)
 simp only [List.drop_zero, List.nil_append] at h
 obtain ⟨r, h1, h2, h3⟩ := g46_ok n hn (sel ids a) (by have := sel_len ids a; omega)
 exact ⟨r, by unfold g6_0; rw [show (0 : Int) = ((0 : Nat) : Int) from rfl, h, g18_33, h1], h2, h3⟩
theorem l6_nil (n : Nat) (hn : 1000 ≤ n) (a : List S3) (ha : a.length ≤ 900) : ∀ (k i : Nat), a.length - i < k → i ≤ a.length → l6_1_0 n a k (i : Int) = some []
 | 0, _, h, _ => by omega
 | k + 1, i, hk, h1 => by
  unfold l6_1_0
  by_cases c : i < a.length
  ·rw [if_pos (by omega), if_pos (by omega), wsucc i (by omega)]
   exact l6_nil n hn a ha k (i + 1) (by omega) (by omega)
  ·obtain ⟨r, h2, _, h3⟩ := g46_ok n hn [] (by simp)
   have : r = [] := by
    cases r with
    | nil => rfl
    | cons x t => exact absurd ((h3 x).1 (List.mem_cons_self ..)) (by simp)
   subst this
   rw [if_neg (by omega), g18_33, h2]; rfl
theorem ins_inc (l : List Int) (v : Int) (j : Nat) (hI : Inc l) (h1 : ∀ x, x ∈ l.take j → x < v) (h2 : ∀ x, x ∈ l.drop j → v < x) : Inc ((l.take j ++ [v]) ++ l.drop j) := by
 have hI' : Inc (l.take j ++ l.drop j) := by rw [List.take_append_drop]; exact hI
 obtain ⟨p1, p2, p3⟩ := List.pairwise_append.1 hI'
 refine List.pairwise_append.2 ⟨List.pairwise_append.2 ⟨p1, List.pairwise_singleton .., fun x hx y hy => ?_⟩, p2, fun x hx y hy => ?_⟩
 ·rw [List.mem_singleton.1 hy]; exact h1 x hx
 ·rcases List.mem_append.1 hx with hx | hx
  ·exact p3 x hx y hy
  ·rw [List.mem_singleton.1 hx]; exact h2 y hy
theorem ins_mem (l : List Int) (v : Int) (j : Nat) (x : Int) : x ∈ (l.take j ++ [v]) ++ l.drop j ↔ x = v ∨ x ∈ l := by
 conv => rhs; rw [← List.take_append_drop j l]
 simp only [List.mem_append, List.mem_singleton]
 constructor
 ·rintro ((h | h) | h)
  ·exact .inr (.inl h)
  ·exact .inl h
  ·exact .inr (.inr h)
 ·rintro (h | h | h)
  ·exact .inl (.inr h)
  ·exact .inl (.inl h)
  ·exact .inr h
theorem l15_ins (n : Nat) (R : List Int → Int → Option (List Int)) (a : List S2) (l : List Int) (i v : Int) (hv : (rd a i).c0 = v) (hl : l.length ≤ 900) (hI : Inc l) (hn : v ∉ l) : ∀ (j k : Nat), j < k → j ≤ l.length → (∀ x, x ∈ l.drop j → v < x) →
  ∃ y, Inc y ∧ (∀ x, x ∈ y ↔ x = v ∨ x ∈ l) ∧ y.length = l.length + 1 ∧ l15_1 n R a l i k (j : Int) = R y (IntKind.i64.wrap (i + 1)) := by
 have stop : ∀ (j : Nat), j ≤ l.length → (∀ x, x ∈ l.drop j → v < x) → (∀ x, x ∈ l.take j → x < v) → ∃ y, Inc y ∧ (∀ x, x ∈ y ↔ x = v ∨ x ∈ l) ∧ y.length = l.length + 1 ∧
   (if 0 ≤ (j : Int) ∧ (0 ≤ Int.toNat (j : Int) ∧ Int.toNat (j : Int) ≤ l.length) then (if 0 + (List.take (Int.toNat (j : Int)) l).length ≤ 17592186044416 then (if (List.take (Int.toNat (j : Int)) l).length + 1 ≤ 17592186044416 then (if 0 ≤ (j : Int) ∧ (Int.toNat (j : Int) ≤ l.length ∧ l.length ≤ l.length) then (if ((List.take (Int.toNat (j : Int)) l) ++ ([(rd a i).c0] : List Int)).length + (List.drop (Int.toNat (j : Int)) l).length ≤ 17592186044416 then (R (((List.take (Int.toNat (j : Int)) l) ++ ([(rd a i).c0] : List Int)) ++ (List.drop (Int.toNat (j : Int)) l)) (IntKind.i64.wrap (i + 1))) else none) else none) else none) else none) else none) = R y (IntKind.i64.wrap (i + 1)) := by
  intro j hj h2 h1
  refine ⟨(l.take j ++ [v]) ++ l.drop j, ins_inc l v j hI h1 h2, ins_mem l v j, by simp; omega, ?_⟩
  rw [Int.toNat_natCast, hv, if_pos ⟨by omega, by omega, hj⟩, if_pos (by simp; omega), if_pos (by simp; omega), if_pos ⟨by omega, hj, Nat.le_refl _⟩, if_pos (by simp; omega)]
 intro j
 induction j with
 | zero =>
  intro k hk hj h2
  obtain ⟨k, rfl⟩ : ∃ k', k = k' + 1 := ⟨k - 1, by omega⟩
  obtain ⟨y, y1, y2, y3, y4⟩ := stop 0 hj h2 (by simp)
  refine ⟨y, y1, y2, y3, ?_⟩
  unfold l15_1
  rw [if_neg (by omega)]
  exact y4
 | succ j ih =>
  intro k hk hj h2
  obtain ⟨k, rfl⟩ : ∃ k', k = k' + 1 := ⟨k - 1, by omega⟩
  have hw : IntKind.i64.wrap (((j + 1 : Nat) : Int) - 1) = (j : Int) := by rw [wrap_i64 (by omega) (by omega)]; omega
  have hd := drop_cons l j (by omega)
  by_cases q : v < rd l (j : Int)
  ·obtain ⟨y, y1, y2, y3, y4⟩ := ih k (by omega) (by omega) (fun x hx => by
    rw [hd] at hx
    rcases List.mem_cons.1 hx with hx | hx
    ·rw [hx]; exact q
    ·exact h2 x hx)
   refine ⟨y, y1, y2, y3, ?_⟩
   unfold l15_1
   rw [if_pos (by omega), hw, if_pos (by omega), hv, if_pos q]
   exact y4
  ·have hne : rd l (j : Int) ≠ v := fun h => hn (h ▸ mem_rd l j (by omega))
   have hI' : Inc (l.take j ++ l.drop j) := by rw [List.take_append_drop]; exact hI
   obtain ⟨p1, p2, p3⟩ := List.pairwise_append.1 hI'
   obtain ⟨y, y1, y2, y3, y4⟩ := stop (j + 1) hj h2 (fun x hx => by
    rw [List.take_succ_eq_append_getElem (by omega : j < l.length)] at hx
    have e : l[j] = rd l (j : Int) := (rd_nat l j (by omega)).symm
    rcases List.mem_append.1 hx with hx | hx
    ·have := p3 x hx (rd l (j : Int)) (by rw [hd]; exact List.mem_cons_self ..)
     omega
    ·rw [List.mem_singleton.1 hx, e]; omega)
   refine ⟨y, y1, y2, y3, ?_⟩
   unfold l15_1
   rw [if_pos (by omega), hw, if_pos (by omega), if_neg (by rw [hv]; exact q)]
   exact y4
theorem l15_aff (n : Nat) (hn : 1000 ≤ n) (a : List S2) (ids : List Int) (ha : a.length ≤ 12) (hi : ids.length ≤ 900) : ∀ (k i : Nat) (acc : List Int), a.length - i < k → i ≤ a.length → acc.length ≤ i → Inc acc →
  ∃ y, Inc y ∧ (∀ x, x ∈ y ↔ x ∈ acc ∨ x ∈ sel ids (a.drop i)) ∧ y.length ≤ 12 ∧ l15_0 n a ids k acc (i : Int) = some y
 | 0, _, _, h, _, _, _ => by omega
 | k + 1, i, acc, hk, h1, h2, hI => by
  unfold l15_0
  by_cases c : i < a.length
  ·have IH := fun acc' (h : acc'.length ≤ i + 1) hI' => l15_aff n hn a ids ha hi k (i + 1) acc' (by omega) (by omega) h hI'
   rw [if_pos (by omega), if_pos (by omega), if_pos (by omega), drop_cons a i c, sel_cons, wsucc i (by omega)]
   by_cases h : (rd a (i : Int)).c6 = true
   ·rw [if_pos h, if_pos h]; exact IH acc (by omega) hI
   ·rw [if_neg h, if_neg h, g9_has n ids _ hi hn]
    simp only [Option.bind_some]
    by_cases q : (rd a (i : Int)).c0 ∈ ids
    ·rw [if_pos (decide_eq_true q), if_pos q, g9_has n acc _ (by omega) hn]
     simp only [Option.bind_some]
     by_cases q2 : (rd a (i : Int)).c0 ∈ acc
     ·rw [if_pos (decide_eq_true q2)]
      obtain ⟨y, y1, y2, y3, y4⟩ := IH acc (by omega) hI
      refine ⟨y, y1, fun x => (y2 x).trans ?_, y3, y4⟩
      rw [List.mem_cons]
      constructor
      ·rintro (h | h)
       ·exact .inl h
       ·exact .inr (.inr h)
      ·rintro (h | h | h)
       ·exact .inl h
       ·exact .inl (h ▸ q2)
       ·exact .inr h
     ·rw [if_neg (by simpa using q2)]
      obtain ⟨z, z1, z2, z3, z4⟩ := l15_ins n (l15_0 n a ids k) a acc (i : Int) _ rfl (by omega) hI q2 acc.length n (by omega) (Nat.le_refl _) (by simp)
      rw [wsucc i (by omega)] at z4
      obtain ⟨y, y1, y2, y3, y4⟩ := IH z (by omega) z1
      refine ⟨y, y1, fun x => (y2 x).trans ?_, y3, by rw [z4]; exact y4⟩
      rw [z2 x, List.mem_cons]
      constructor
      ·rintro ((h | h) | h)
       ·exact .inr (.inl h)
       ·exact .inl h
       ·exact .inr (.inr h)
      ·rintro (h | h | h)
       ·exact .inl (.inr h)
       ·exact .inl (.inl h)
       ·exact .inr h
    ·rw [if_neg q, if_neg (by simpa using q)]; exact IH acc (by omega) hI
  ·rw [if_neg (by omega), List.drop_eq_nil_of_le (by omega)]
   exact ⟨acc, hI, fun x => by simp [sel], by omega, rfl⟩
theorem affr (n : Nat) (hn : 1000 ≤ n) (a : List S2) (ids : List Int) (ha : a.length ≤ 12) (hi : ids.length ≤ 900) : ∃ y, Inc y ∧ (∀ x, x ∈ y ↔ x ∈ sel ids a) ∧ y.length ≤ 12 ∧ g15 n a ids = some y := by
 obtain ⟨y, y1, y2, y3, y4⟩ := l15_aff n hn a ids ha hi n 0 [] (by omega) (by omega) (by simp) List.Pairwise.nil
 exact ⟨y, y1, fun x => by simpa using y2 x, y3, y4⟩
theorem l3_2_ok (n : Nat) (hn : 1000 ≤ n) (a : List S2) (ids r : List Int) (ps : List (List S1)) (ha : a.length ≤ 12) (hi : ids.length ≤ 900) (hp : ps.length = 4) (ho : okPs ps) (h1 : Inc r) (h2 : ∀ x, x ∈ r ↔ x ∈ sel ids a) (hg : g16 n = some true) : ∀ (k i : Nat), 4 - i < k → i ≤ 4 → l3_2 n a ids r ps ps k (i : Int) = some true
 | 0, _, h, _ => by omega
 | k + 1, i, hk, hi4 => by
  unfold l3_2
  by_cases c : i < 4
  ·have sk := sm_ok n hn ps ho _ (mem_rd ps i (by omega))
   rw [if_pos (by omega), if_pos (by omega), if_pos (by omega), sk.1, sk.2]
   simp only [Option.bind_some, if_true]
   rw [wsucc i (by omega)]
   exact l3_2_ok n hn a ids r ps ha hi hp ho h1 h2 hg k (i + 1) (by omega) (by omega)
  ·obtain ⟨y, y1, y2, y3, y4⟩ := affr n hn a ids ha hi
   have e : r = y := inc_ext r y h1 y1 fun x => (h2 x).trans (y2 x).symm
   subst e
   have e7 := l6_nil n hn (a.map own) (by simp; omega) n 0 (by simp; omega) (by omega)
   rw [if_neg (by omega), y4]
   simp only [Option.bind_some]
   rw [g14_65, g60_eq n hn r r (by omega)]
   simp only [Option.bind_some, decide_true, if_true]
   rw [g7_own n hn a (by omega)]
   simp only [Option.bind_some]
   unfold g6_1
   rw [show (0 : Int) = ((0 : Nat) : Int) from rfl, e7]
   simp only [Option.bind_some, hg]
   rfl
theorem l3_1_ok (n : Nat) (hn : 1000 ≤ n) (m : List Int) (a : List S2) (hm : ∀ x, x ∈ m → isI64 x) (ha : a.length ≤ 12) (hg : g16 n = some true) : ∀ (k i : Nat) (ids : List Int), a.length - i < k → i ≤ a.length → ids.length ≤ i → l3_1 n m a k (i : Int) ids = some true
 | 0, _, _, h, _, _ => by omega
 | k + 1, i, ids, hk, h1, h2 => by
  unfold l3_1
  by_cases c : i < a.length
  ·obtain ⟨v, e, _, _⟩ := pickN n m (IntKind.i64.wrap ((i : Int) + 2)) 3 hm (by omega)
   rw [if_pos (by omega), e]
   simp only [Option.bind_some]
   rw [wsucc i (by omega)]
   by_cases q : 0 < v
   ·rw [if_pos q, if_pos (by omega), if_pos (by omega)]
    exact l3_1_ok n hn m a hm ha hg k (i + 1) _ (by omega) (by omega) (by simp; omega)
   ·rw [if_neg q]
    exact l3_1_ok n hn m a hm ha hg k (i + 1) _ (by omega) (by omega) (by omega)
  ·obtain ⟨r, e, r1, r2⟩ := aff n hn a ids ha (by omega)
   obtain ⟨ps, p1, p2, p3⟩ := g10_ok n hn m 4 (by omega) hm
   have ho : okPs ps := fun q hq => ⟨by have := (p2 q hq).1; omega, (p2 q hq).2⟩
   rw [if_neg (by omega), g7_own n hn a (by omega)]
   simp only [Option.bind_some]
   rw [e]
   simp only [Option.bind_some]
   rw [show (4 : Int) = ((4 : Nat) : Int) from rfl, p3]
   simp only [Option.bind_some]
   rw [g11_id n hn ps (by omega) (fun x hx => by have := (p2 x hx).1; omega)]
   simp only [Option.bind_some]
   exact l3_2_ok n hn a ids r ps ha (by omega) p1 ho r1 r2 hg n 0 (by omega) (by omega)
theorem l3_0_ok (n : Nat) (hn : 1000 ≤ n) (m : List Int) (hm : ∀ x, x ∈ m → isI64 x) (hg : g16 n = some true) : ∀ (k i : Nat) (a : List S2), a.length ≤ 12 → a.length - i < k → i ≤ a.length → l3_0 n m k (i : Int) a = some true
 | 0, _, _, _, h, _ => by omega
 | k + 1, i, a, ha, hk, h1 => by
  unfold l3_0
  by_cases c : i < a.length
  ·obtain ⟨v, e, _, _⟩ := pickN n m (i : Int) 3 hm (by omega)
   obtain ⟨w, e', _, _⟩ := pickN n m (IntKind.i64.wrap ((i : Int) + 1)) 5 hm (by omega)
   have hc : (0 : Int) ≤ (i : Int) ∧ (i : Int) < (a.length : Int) := by omega
   have hc' : (i : Int) < (a.length : Int) := by omega
   simp only [e, e', Option.bind_some, Int.toNat_natCast, List.length_set, hc, hc', c, and_self, if_true]
   rw [wsucc i (by omega)]
   repeat' split
   all_goals exact l3_0_ok n hn m hm hg k (i + 1) _ (by simpa using ha) (by simp; omega) (by simp; omega)
  ·rw [if_neg (by omega)]
   exact l3_1_ok n hn m a hm ha hg n 0 [] (by omega) (by omega) (by simp)
theorem pureWA (l m : List Int) (a2 : Int) (hl : ∀ n, n ∈ l → isI64 n) (hm : ∀ n, n ∈ m → isI64 n) (h2 : isI64 a2) : ∃ n, g3 n l m a2 = some true := by
 refine ⟨1000, ?_⟩
 have hlv := lives
 have hn : 1000 ≤ 1000 := Nat.le_refl _
 generalize hN : 1000 = n at *
 have hn : 1000 ≤ n := by omega
 clear hN
 obtain ⟨p, e, p1, p2⟩ := g4_ok n hn l a2 hl
 unfold g3
 rw [e]
 simp only [Option.bind_some]
 rw [if_pos (by omega), if_pos (by omega)]
 exact l3_0_ok n hn m hm hlv n 0 _ (by simp; omega) (by simp; omega) (by simp)
end Go.Av
end
