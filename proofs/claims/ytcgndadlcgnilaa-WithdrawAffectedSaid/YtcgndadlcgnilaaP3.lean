/- the plain law, part 3 -/
import Derived.Test.YtcgndadlcgnilaaP2
set_option autoImplicit false
set_option linter.unusedSimpArgs false
set_option linter.unusedVariables false
set_option linter.unnecessarySimpa false
section
namespace Go.Av
def Inc (l : List Int) : Prop := l.Pairwise (· < ·)
theorem inc_ext : ∀ (a b : List Int), Inc a → Inc b → (∀ x, x ∈ a ↔ x ∈ b) → a = b
 | [], [], _, _, _ => rfl
 | [], y :: b, _, _, h => absurd ((h y).2 (List.mem_cons_self ..)) (by simp)
 | x :: a, [], _, _, h => absurd ((h x).1 (List.mem_cons_self ..)) (by simp)
 | x :: a, y :: b, ha, hb, h => by
  obtain ⟨ha1, ha2⟩ := List.pairwise_cons.1 ha
  obtain ⟨hb1, hb2⟩ := List.pairwise_cons.1 hb
  have e : x = y := by
   rcases List.mem_cons.1 ((h x).1 (List.mem_cons_self ..)) with e | e
   ·exact e
   ·rcases List.mem_cons.1 ((h y).2 (List.mem_cons_self ..)) with e2 | e2
    ·exact e2.symm
    ·have := hb1 x e; have := ha1 y e2; omega
  subst e
  congr 1
  refine inc_ext a b ha2 hb2 fun z => ⟨fun hz => ?_, fun hz => ?_⟩
  ·rcases List.mem_cons.1 ((h z).1 (List.mem_cons_of_mem _ hz)) with e | e
   ·have := ha1 z hz; omega
   ·exact e
  ·rcases List.mem_cons.1 ((h z).2 (List.mem_cons_of_mem _ hz)) with e | e
   ·have := hb1 z hz; omega
   ·exact e
theorem set_mid {α : Type} (x y : α) (t : List α) : ∀ p : List α, (p ++ x :: t).set p.length y = p ++ y :: t
 | [] => rfl
 | a :: p => by simp
theorem rdn_mid {α : Type} [Inhabited α] (x : α) (t : List α) (p : List α) : rdn (p ++ x :: t) p.length = x := by
 unfold rdn; simp
def Asc (l : List Int) : Prop := l.Pairwise (· ≤ ·)
theorem g93_lt (n : Nat) (a b : Int) : g93 n a b = some (decide (a < b)) := rfl
theorem wpred (i : Nat) (h : i < 4611686018427387904) (h1 : 1 ≤ i) : IntKind.i64.wrap ((i : Int) - 1) = ((i - 1 : Nat) : Int) := by
 rw [wrap_i64 (by omega) (by omega)]; omega
/-- one element goes to its place -/
theorem l87_1_ok (n : Nat) (R : Int → List Int → Option (List Int)) (z i : Nat) (hz : z ≤ 1000) (hi : i < z) :
  ∀ (k : Nat) (p q t : List Int) (v : Int), p.length < k → (p ++ v :: (q ++ t)).length = z → p.length ≤ i → Asc (p ++ q) → (∀ x, x ∈ q → v < x) →
   ∃ s, l87_1 n R z 0 (i : Int) k (p.length : Int) (p ++ v :: (q ++ t)) = R ((i + 1 : Nat) : Int) (s ++ t) ∧ Asc s ∧ s.Perm (p ++ v :: q)
 | 0, _, _, _, _, h, _, _, _, _ => by omega
 | k + 1, p, q, t, v, hk, hl, hp, hs, hq => by
  unfold l87_1
  rcases List.eq_nil_or_concat p with rfl | ⟨p', u, rfl⟩
  ·rw [if_neg (by simp), wsucc i (by omega)]
   refine ⟨v :: q, by simp, List.pairwise_cons.2 ⟨fun x hx => by have := hq x hx; omega, by simpa [Asc] using hs⟩, by simp⟩
  ·have e : p' ++ [u] ++ v :: (q ++ t) = p' ++ u :: (v :: (q ++ t)) := by simp
   have e2 : p' ++ u :: (v :: (q ++ t)) = (p' ++ [u]) ++ v :: (q ++ t) := by simp
   have len : (p'.concat u).length = p'.length + 1 := by simp
   rw [List.concat_eq_append] at *
   simp only [List.length_append, List.length_cons, List.length_nil] at hk hl hp len
   have len' : (p' ++ [u]).length = p'.length + 1 := by simp
   have r1 : rdn (p' ++ [u] ++ v :: (q ++ t)) (p'.length + 1) = v := by rw [← len']; exact rdn_mid _ _ _
   have r0 : rdn (p' ++ [u] ++ v :: (q ++ t)) p'.length = u := by rw [e]; exact rdn_mid _ _ _
   have s1 : (p' ++ [u] ++ v :: (q ++ t)).set (p'.length + 1) u = p' ++ u :: (u :: (q ++ t)) := by rw [← len', set_mid]; try simp
   have s2 : (p' ++ u :: (u :: (q ++ t))).set p'.length v = p' ++ v :: ((u :: q) ++ t) := by rw [set_mid]; try simp
   have L : (p' ++ [u] ++ v :: (q ++ t)).length = z := by simp; omega
   rw [len', wpred (p'.length + 1) (by omega) (by omega), show p'.length + 1 - 1 = p'.length from rfl]
   simp only [Int.toNat_natCast, r1, r0, s1, s2, L, g93_lt, Option.bind_some]
   rw [if_pos (by omega), if_pos (by omega), if_pos (by omega), if_pos (by omega), if_pos (by omega)]
   by_cases c : v < u
   ·rw [if_pos (by simpa using c), if_pos (by omega), if_pos (by omega), if_pos (by omega), if_pos (by omega), if_pos (by omega), if_pos (by omega), if_pos (by omega), if_pos (by first | omega | (simp; omega) | simp)]
    obtain ⟨s, h1, h2, h3⟩ := l87_1_ok n R z i hz hi k p' (u :: q) t v (by omega) (by simp; omega) (by omega) (by simpa using hs) (by
     intro x hx
     rcases List.mem_cons.1 hx with rfl | hx
     ·exact c
     ·exact hq x hx)
    refine ⟨s, h1, h2, h3.trans ?_⟩
    simp only [List.append_assoc, List.singleton_append]
    exact List.Perm.append_left _ (List.Perm.swap ..)
   ·rw [if_neg (by simpa using c), wsucc i (by omega)]
    refine ⟨p' ++ [u] ++ v :: q, by simp, ?_, List.Perm.refl _⟩
    have hs' := hs
    unfold Asc at hs ⊢
    rw [List.pairwise_append] at hs ⊢
    refine ⟨hs.1, List.pairwise_cons.2 ⟨fun x hx => by have := hq x hx; omega, hs.2.1⟩, fun a ha b hb => ?_⟩
    rcases List.mem_cons.1 hb with rfl | hb
    ·rcases List.mem_append.1 ha with ha | ha
     ·have := (List.pairwise_append.1 hs.1).2.2 a ha u (by simp); omega
     ·simp at ha; omega
    ·exact hs.2.2 a ha b hb
theorem l87_0_ok (n z : Nat) (hn : 1000 ≤ n) (hz : z ≤ 900) : ∀ (k : Nat) (s t : List Int), z - s.length < k → (s ++ t).length = z → 1 ≤ s.length → Asc s →
   ∃ r, l87_0 n z 0 (z : Int) k (s.length : Int) (s ++ t) = some r ∧ Asc r ∧ r.Perm (s ++ t)
 | 0, _, _, h, _, _, _ => by omega
 | k + 1, s, t, hk, hl, hs, ha => by
  unfold l87_0
  rcases t with _ | ⟨v, t⟩
  ·rw [if_neg (by simp at hl; omega)]
   exact ⟨_, rfl, by simpa using ha, List.Perm.refl _⟩
  ·have hl' := hl
   simp only [List.length_append, List.length_cons] at hl
   rw [if_pos (by omega)]
   obtain ⟨r, h1, h2, h3⟩ := l87_1_ok n (l87_0 n z 0 (z : Int) k) z s.length (by omega) (by omega) n s [] t v (by omega) (by simpa using hl') (by omega) (by simpa using ha) (by simp)
   have hr : r.length = s.length + 1 := by rw [h3.length_eq]; simp
   simp only [List.nil_append] at h1 h3
   rw [h1, ← hr]
   obtain ⟨r', h4, h5, h6⟩ := l87_0_ok n z hn hz k r t (by omega) (by simp; omega) (by omega) h2
   refine ⟨r', h4, h5, h6.trans ?_⟩
   have := h3.append_right t
   simpa using this
theorem g51_0 (n : Nat) (x : Int) (h0 : 0 ≤ x) (h : x ≤ 12) : ∃ r, g51 n x = some r := by
 have h1 : ∀ y : Fin 13, (g51 0 ((y.val : Nat) : Int)).isSome = true := by decide +kernel
 have := h1 ⟨x.toNat, by omega⟩
 simp only [] at this
 rw [show ((x.toNat : Nat) : Int) = x by omega] at this
 exact Option.isSome_iff_exists.1 this
theorem g58_ok (n : Nat) (hn : 1000 ≤ n) (a : List Int) (ha : a.length ≤ 12) (h1 : a ≠ []) : ∃ r, g58 n a a.length = some r ∧ Asc r ∧ r.Perm a := by
 obtain ⟨v, hv⟩ := g51_0 n (a.length : Int) (by omega) (by omega)
 unfold g58 g77
 rw [wrap_u64 (by omega) (by omega), hv]
 simp only [Option.bind_some]
 obtain ⟨n, rfl⟩ : ∃ m, n = m + 1 := ⟨n - 1, by omega⟩
 unfold l77_0
 rw [Int.sub_zero, wrap_i64 (by omega) (by omega), if_pos (by omega)]
 unfold g87
 rcases a with _ | ⟨x, t⟩
 ·exact absurd rfl h1
 ·obtain ⟨r, e, h2, h3⟩ := l87_0_ok (n + 1) (x :: t).length (by omega) (by omega) (n + 1) [x] t (by simp at ha ⊢; omega) (by simp) (by simp) (by simp [Asc])
  rw [show IntKind.i64.wrap (0 + 1) = (([x] : List Int).length : Int) from rfl]
  simp only [List.singleton_append] at e
  rw [e]
  exact ⟨r, rfl, h2, h3⟩
/-- the elements that are left, after a run of equal ones -/
theorem l59_1_ok (n : Nat) (s : List Int) (k2 : Nat) (hs : Asc s) (hz : s.length ≤ 1000) (h2 : 1 ≤ k2) : ∀ (k : Nat) (i j : Nat) (w : List Int),
  s.length - (k2 + j) < k → w.length = s.length → 1 ≤ i → i ≤ k2 + j - 1 → 1 ≤ j → k2 + j ≤ s.length → w.drop (k2 + j - 1) = s.drop (k2 + j - 1) → Inc (w.take i) → (∀ x, x ∈ w.take i ↔ x ∈ s.take (k2 + j)) →
  ∃ m w', l59_1 n s.length (k2 : Int) k (i : Int) (j : Int) w = some (m, w') ∧ m ≤ w'.length ∧ Inc (w'.take m) ∧ ∀ x, x ∈ w'.take m ↔ x ∈ s
 | 0, _, _, _, h, _, _, _, _, _, _, _, _ => by omega
 | k + 1, i, j, w, hk, hw, hi1, hi, hj, hjz, hd, hI, hM => by
  unfold l59_1
  simp only [Int.toNat_natCast]
  by_cases c : k2 + j < s.length
  ·have ej : rdn w (k2 + j) = s[k2 + j] := by
    have h : w[k2 + j]? = s[k2 + j]? := by
     have := congrArg (fun l => l[1]?) hd
     simp only [List.getElem?_drop] at this
     rwa [show k2 + j - 1 + 1 = k2 + j by omega] at this
    unfold rdn
    rw [List.getD_eq_getElem?_getD, h, List.getElem?_eq_getElem (by omega), Option.getD_some]
   have ej1 : rdn w (k2 + (j - 1)) = s[k2 + j - 1] := by
    have h : w[k2 + (j - 1)]? = s[k2 + j - 1]? := by
     have := congrArg (fun l => l[0]?) hd
     simp only [List.getElem?_drop] at this
     rwa [show k2 + j - 1 + 0 = k2 + j - 1 by omega, show w[k2 + j - 1]? = w[k2 + (j - 1)]? by congr 1; omega] at this
    unfold rdn
    rw [List.getD_eq_getElem?_getD, h, List.getElem?_eq_getElem (by omega), Option.getD_some]
   have tk : s.take (k2 + (j + 1)) = s.take (k2 + j) ++ [s[k2 + j]] := by
    rw [show k2 + (j + 1) = k2 + j + 1 by omega, List.take_add_one, List.getElem?_eq_getElem c]; rfl
   have dd : ∀ u : List Int, u.drop (k2 + j - 1) = s.drop (k2 + j - 1) → u.drop (k2 + (j + 1) - 1) = s.drop (k2 + (j + 1) - 1) := by
    intro u hu
    have := congrArg (List.drop 1) hu
    simp only [List.drop_drop] at this
    rw [show k2 + (j + 1) - 1 = k2 + j - 1 + 1 by omega]; exact this
   rw [if_pos (by omega), if_pos (by omega), if_pos (by omega), wpred j (by omega) hj]
   simp only [Int.toNat_natCast, ej, ej1]
   rw [if_pos (by omega), if_pos (by omega)]
   by_cases q : s[k2 + j] = s[k2 + j - 1]
   ·rw [if_pos q, wsucc j (by omega)]
    refine l59_1_ok n s k2 hs hz h2 k i (j + 1) w (by omega) hw hi1 (by omega) (by omega) (by omega) (dd w hd) hI fun x => ?_
    rw [hM x, tk, List.mem_append, List.mem_singleton]
    refine ⟨.inl, fun h => h.elim id fun h => ?_⟩
    rw [h, q]
    exact List.mem_take_iff_getElem.2 ⟨k2 + j - 1, by omega, rfl⟩
   ·rw [if_neg q, if_pos (by omega), if_pos (by omega), if_pos (by omega), if_pos (by omega), wsucc j (by omega), wsucc i (by omega)]
    have lt : ∀ x, x ∈ w.take i → x < s[k2 + j] := by
     intro x hx
     obtain ⟨a, ha, rfl⟩ := List.mem_take_iff_getElem.1 ((hM x).1 hx)
     have h1 : s[a] ≤ s[k2 + j - 1] := by
      rcases Nat.lt_or_ge a (k2 + j - 1) with h | h
      ·exact (List.pairwise_iff_getElem.1 hs) _ _ _ _ h
      ·have : a = k2 + j - 1 := by omega
       subst this; exact Int.le_refl _
     have h3 : s[k2 + j - 1] ≤ s[k2 + j] := (List.pairwise_iff_getElem.1 hs) _ _ _ _ (by omega)
     omega
    have tw : (w.set i s[k2 + j]).take (i + 1) = w.take i ++ [s[k2 + j]] := by
     rw [List.take_add_one, List.getElem?_set_self (by omega), List.take_set_of_le (Nat.le_refl _)]; rfl
    refine l59_1_ok n s k2 hs hz h2 k (i + 1) (j + 1) (w.set i s[k2 + j]) (by omega) (by simpa using hw) (by omega) (by omega) (by omega) (by omega) ?_ ?_ fun x => ?_
    ·rw [List.drop_set_of_lt (by omega)]
     exact dd w hd
    ·rw [tw]
     exact List.pairwise_append.2 ⟨hI, List.pairwise_singleton .., fun a ha b hb => by rw [List.mem_singleton.1 hb]; exact lt a ha⟩
    ·rw [tw, tk, List.mem_append, List.mem_append, hM x]
  ·rw [if_neg (by omega), if_pos (by omega), if_pos (by omega), if_pos (by omega)]
   have : ∀ u : List Int, (w.take i ++ u).take i = w.take i := by
    intro u
    rw [List.take_append_of_le_length (by simp; omega), List.take_take, Nat.min_self]
   refine ⟨_, _, rfl, ?_, ?_, ?_⟩
   ·simp; omega
   ·rw [List.append_assoc, this]; exact hI
   ·intro x; rw [List.append_assoc, this, hM x, List.take_of_length_le (by omega)]
/-- the search of the first pair of equal ones -/
theorem l59_0_ok (n : Nat) (hn : 1000 ≤ n) (s : List Int) (hs : Asc s) (hz : s.length ≤ 900) : ∀ (k i : Nat), s.length - i < k → 1 ≤ i → i ≤ s.length → Inc (s.take i) →
  ∃ m w', l59_0 n s s.length k (i : Int) = some (m, w') ∧ m ≤ w'.length ∧ Inc (w'.take m) ∧ ∀ x, x ∈ w'.take m ↔ x ∈ s
 | 0, _, h, _, _, _ => by omega
 | k + 1, i, hk, h1, hi, hI => by
  unfold l59_0
  simp only [Int.toNat_natCast]
  by_cases c : i < s.length
  ·have e0 : rdn s i = s[i] := by unfold rdn; rw [List.getD_eq_getElem?_getD, List.getElem?_eq_getElem c, Option.getD_some]
   have e1 : rdn s (i - 1) = s[i - 1] := by unfold rdn; rw [List.getD_eq_getElem?_getD, List.getElem?_eq_getElem (by omega), Option.getD_some]
   have tk : s.take (i + 1) = s.take i ++ [s[i]] := by rw [List.take_add_one, List.getElem?_eq_getElem c]; rfl
   rw [if_pos (by omega), if_pos (by omega), if_pos (by omega), wpred i (by omega) h1]
   simp only [Int.toNat_natCast, e0, e1]
   rw [if_pos (by omega), if_pos (by omega)]
   by_cases q : s[i] = s[i - 1]
   ·rw [if_pos q, if_pos (by omega)]
    refine l59_1_ok n s i hs (by omega) h1 n i 1 s (by omega) rfl h1 (by omega) (by omega) (by omega) rfl hI fun x => ?_
    rw [tk, List.mem_append, List.mem_singleton]
    refine ⟨.inl, fun h => h.elim id fun h => ?_⟩
    rw [h, q]
    exact List.mem_take_iff_getElem.2 ⟨i - 1, by omega, rfl⟩
   ·rw [if_neg q, wsucc i (by omega)]
    refine l59_0_ok n hn s hs hz k (i + 1) (by omega) (by omega) (by omega) ?_
    rw [tk]
    refine List.pairwise_append.2 ⟨hI, List.pairwise_singleton .., fun a ha b hb => ?_⟩
    rw [List.mem_singleton.1 hb]
    obtain ⟨a', ha', rfl⟩ := List.mem_take_iff_getElem.1 ha
    have h3 : s[i - 1] ≤ s[i] := (List.pairwise_iff_getElem.1 hs) _ _ _ _ (by omega)
    have h2 : s[a'] ≤ s[i - 1] := by
     rcases Nat.lt_or_ge a' (i - 1) with h | h
     ·exact (List.pairwise_iff_getElem.1 hs) _ _ _ _ h
     ·have : a' = i - 1 := by omega
      subst this; exact Int.le_refl _
    omega
  ·rw [if_neg (by omega)]
   have e : s.take s.length = s := List.take_of_length_le (Nat.le_refl _)
   refine ⟨_, _, rfl, Nat.le_refl _, ?_, fun x => by rw [e]⟩
   rw [e]; rw [List.take_of_length_le (by omega)] at hI; exact hI
/-- sorted: the members, rising, each once -/
theorem g46_ok (n : Nat) (hn : 1000 ≤ n) (a : List Int) (ha : a.length ≤ 12) : ∃ r, g46 n a = some r ∧ Inc r ∧ ∀ x, x ∈ r ↔ x ∈ a := by
 unfold g46
 rw [if_pos (by omega)]
 by_cases h : a = []
 ·subst h
  rw [if_pos rfl]
  obtain ⟨v, hv⟩ := g51_0 n 0 (by omega) (by omega)
  unfold g58_0 g77_0 g59_0
  rw [hv]
  obtain ⟨m, rfl⟩ : ∃ m, n = m + 1 := ⟨n - 1, by omega⟩
  exact ⟨[], rfl, List.Pairwise.nil, fun _ => Iff.rfl⟩
 ·rw [if_neg h]
  obtain ⟨s, e, hs, hp⟩ := g58_ok n hn a ha h
  rw [e]
  simp only [Option.bind_some]
  unfold g59
  rw [← hp.length_eq]
  have hl := hp.length_eq
  by_cases h2 : ((s.length : Nat) : Int) < 2
  ·rw [if_pos h2]
   simp only [Option.bind_some]
   rw [if_pos (Nat.le_refl _), List.take_of_length_le (Nat.le_refl _)]
   refine ⟨_, rfl, ?_, fun x => hp.mem_iff⟩
   rcases s with _ | ⟨x, _ | ⟨y, t⟩⟩
   ·exact List.Pairwise.nil
   ·exact List.pairwise_singleton ..
   ·simp at h2; omega
  ·rw [if_neg h2]
   obtain ⟨m, w, e1, e2, e3, e4⟩ := l59_0_ok n hn s hs (by omega) n 1 (by omega) (by omega) (by omega) (by
    rcases s with _ | ⟨x, t⟩
    ·exact List.Pairwise.nil
    ·exact List.pairwise_singleton ..)
   rw [show (1 : Int) = ((1 : Nat) : Int) from rfl, e1]
   simp only [Option.bind_some]
   rw [if_pos e2]
   exact ⟨_, rfl, e3, fun x => (e4 x).trans hp.mem_iff⟩
end Go.Av
end
