/- the plain law, part 15 -/
import Derived.Test.YtjmhdecofadfnaaGreatP14
set_option autoImplicit false
set_option linter.unusedSimpArgs false
set_option linter.unusedVariables false
set_option linter.unnecessarySimpa false
section
namespace Go.Av
/-! rings with four vertices, two above and two below -/
theorem mul_bd (p q M : Int) (hp : -M ≤ p ∧ p ≤ M) (hq : -M ≤ q ∧ q ≤ M) : -(M * M) ≤ p * q ∧ p * q ≤ M * M := by
 have h1 : p.natAbs ≤ M.toNat := by omega
 have h2 : q.natAbs ≤ M.toNat := by omega
 have h3 := Nat.mul_le_mul h1 h2
 rw [← Int.natAbs_mul] at h3
 have h4 : ((M.toNat * M.toNat : Nat) : Int) = M * M := by rw [Int.natCast_mul, Int.toNat_of_nonneg (by omega)]
 omega
def Nr (p : S0) : Prop := -1048576 ≤ p.c0 ∧ p.c0 ≤ 1048576 ∧ -1048576 ≤ p.c1 ∧ p.c1 ≤ 1048576
theorem g119_nr (n : Nat) (p : S0) (h : Nr p) : g119 n p = some false := by
 obtain ⟨h1, h2, h3, h4⟩ := h
 unfold g119
 rw [if_neg (by split <;> omega)]
 congr 1
 simp only [decide_eq_false_iff_not]
 split <;> omega
theorem l159_nr (n : Nat) (l : List S0) (hl : l.length ≤ 1000000) (h : ∀ p, p ∈ l → Nr p) : ∀ (k i : Nat), l.length - i < k → i ≤ l.length → l159_0_0 n l k (i : Int) = some (-1)
 | 0, _, h, _ => by omega
 | k + 1, i, hk, hi => by
  unfold l159_0_0
  by_cases c : i < l.length
  ·rw [if_pos (by omega), if_pos (by omega), show (⟨(rd l (i : Int)).c0, (rd l (i : Int)).c1⟩ : S0) = rd l (i : Int) from rfl, g119_nr n _ (h _ (mem_rd l i c)), Option.bind_some, if_neg (by simp),
    show IntKind.i64.wrap ((i : Int) + 1) = ((i + 1 : Nat) : Int) by rw [wrap_i64] <;> omega]
   exact l159_nr n l hl h k (i + 1) (by omega) (by omega)
  ·rw [if_neg (by omega)]
theorem near_ok (n : Nat) (l : List S0) (hl : l.length ≤ 1000000) (hn : l.length < n) (h : ∀ p, p ∈ l → Nr p) : g79 n l = some true := by
 unfold g79 g118_0 g159_0
 have := l159_nr n l hl h n 0 (by omega) (by omega)
 simp only [Int.natCast_zero] at this
 rw [this]; rfl
/-- turned left -/
def Lf (a b c : S0) : Prop := (b.c1 - a.c1) * (c.c0 - a.c0) < (b.c0 - a.c0) * (c.c1 - a.c1)
theorem turn_left (n : Nat) (hn : 10 ≤ n) (a b c : S0) (ha : Nr a) (hb : Nr b) (hc : Nr c) (h : Lf a b c) : g162 n a b c = some 1 := by
 unfold g162
 rw [near_ok n _ (by simp) (by simp; omega) (by intro p hp; simp only [List.mem_cons, List.not_mem_nil, or_false] at hp; rcases hp with rfl | rfl | rfl <;> assumption), Option.bind_some, if_pos rfl]
 unfold Nr at ha hb hc
 unfold Lf at h
 have w : ∀ x : Int, -9000000000 < x → x < 9000000000 → IntKind.i64.wrap x = x := fun x h1 h2 => by rw [wrap_i64] <;> omega
 rw [w (b.c0 - a.c0) (by omega) (by omega), w (c.c1 - a.c1) (by omega) (by omega), w (b.c1 - a.c1) (by omega) (by omega), w (c.c0 - a.c0) (by omega) (by omega)]
 have b1 := mul_bd (b.c0 - a.c0) (c.c1 - a.c1) 2097152 (by omega) (by omega)
 have b2 := mul_bd (b.c1 - a.c1) (c.c0 - a.c0) 2097152 (by omega) (by omega)
 have w2 : ∀ x : Int, -(2097152 * 2097152) ≤ x → x ≤ 2097152 * 2097152 → IntKind.i64.wrap x = x := fun x h1 h2 => by rw [wrap_i64] <;> omega
 rw [w2 _ b1.1 b1.2, w2 _ b2.1 b2.2]
 have : g103 n ((b.c0 - a.c0) * (c.c1 - a.c1)) ((b.c1 - a.c1) * (c.c0 - a.c0)) = some 1 := by
  unfold g103 g145
  simp only [Option.bind_some, Bool.false_eq_true, if_false, if_neg (show ¬ ((b.c0 - a.c0) * (c.c1 - a.c1) < (b.c1 - a.c1) * (c.c0 - a.c0)) by omega), if_pos h]
 rw [this]; rfl
theorem has_no (n : Nat) (hn : 10 ≤ n) (a b c : S0) (ha : Nr a) (hb : Nr b) (hc : Nr c) (h : Lf a b c) : g121 n (⟨a.c0, a.c1, b.c0, b.c1⟩ : S9) (⟨c.c0, c.c1⟩ : S0) = some false := by
 unfold g121
 obtain ⟨v, hv⟩ : ∃ v, g161 n (⟨a.c0, a.c1, b.c0, b.c1⟩ : S9) (⟨c.c0, c.c1⟩ : S0) = some v := by
  unfold g161
  repeat' (first | exact ⟨_, rfl⟩ | split)
 rw [hv, Option.bind_some]
 cases v with
 | false => rfl
 | true =>
  rw [if_pos rfl]
  have := turn_left n hn a b c ha hb hc h
  rw [show g162 n (⟨a.c0, a.c1⟩ : S0) (⟨b.c0, b.c1⟩ : S0) (⟨c.c0, c.c1⟩ : S0) = some 1 from this]; rfl
theorem cross_no (n : Nat) (hn : 10 ≤ n) (a b c d : S0) (ha : Nr a) (hb : Nr b) (hc : Nr c) (hd : Nr d) (h1 : Lf a b c) (h2 : Lf a b d) (h3 : Lf c d a) (h4 : Lf c d b) :
  g122 n (⟨a.c0, a.c1⟩ : S0) (⟨b.c0, b.c1⟩ : S0) (⟨c.c0, c.c1⟩ : S0) (⟨d.c0, d.c1⟩ : S0) = some false := by
 unfold g122
 rw [near_ok n _ (by simp) (by simp; omega) (by intro p hp; simp only [List.mem_cons, List.not_mem_nil, or_false] at hp; rcases hp with rfl | rfl | rfl | rfl <;> assumption), Option.bind_some, if_pos rfl]
 have t1 := turn_left n hn a b c ha hb hc h1
 have t2 := turn_left n hn a b d ha hb hd h2
 have k1 := has_no n hn a b c ha hb hc h1
 have k2 := has_no n hn a b d ha hb hd h2
 have k3 := has_no n hn c d a hc hd ha h3
 have k4 := has_no n hn c d b hc hd hb h4
 simp only [show ∀ p : S0, (⟨p.c0, p.c1⟩ : S0) = p from fun _ => rfl, t1, t2, Option.bind_some] at *
 rw [if_neg (by decide), k1, Option.bind_some, if_neg (by simp), k2, Option.bind_some, if_neg (by simp), k3, Option.bind_some, if_neg (by simp), k4]
 rfl
/-- the edge at a place -/
def Eg (a : List S0) (i : Nat) : S9 := ⟨(rd a (i : Int)).c0, (rd a (i : Int)).c1, (rd a (((i + 1) % a.length : Nat) : Int)).c0, (rd a (((i + 1) % a.length : Nat) : Int)).c1⟩
theorem l160_all {σ : Type} (n : Nat) (a : List S0) (f : Int → S9 → σ → Option (Bool × σ)) (st : Nat → σ) (hl : a.length ≤ 1000000) (h : ∀ i, i < a.length → f (i : Int) (Eg a i) (st i) = some (true, st (i + 1))) : ∀ (k i : Nat), a.length - i < k → i ≤ a.length → l160_0_0 n a f k (i : Int) (st i) = some (st a.length)
 | 0, _, h, _ => by omega
 | k + 1, i, hk, hi => by
  unfold l160_0_0
  by_cases c : i < a.length
  ·have w1 : IntKind.i64.wrap ((i : Int) + 1) = ((i + 1 : Nat) : Int) := by rw [wrap_i64] <;> omega
   have e1 : Int.tmod ((i + 1 : Nat) : Int) (a.length : Int) = (((i + 1) % a.length : Nat) : Int) := rfl
   have hm := Nat.mod_lt (i + 1) (show 0 < a.length by omega)
   rw [if_pos (by omega), if_pos (by omega), if_pos (show ¬ (a.length : Int) = 0 by omega)]
   simp only [w1, e1]
   rw [if_pos (by omega)]
   have := h i c
   unfold Eg at this
   rw [this, Option.bind_some, if_pos rfl]
   exact l160_all n a f st hl h k (i + 1) (by omega) (by omega)
  ·obtain rfl : i = a.length := by omega
   rw [if_neg (by omega)]
theorem g160_all {σ : Type} (n : Nat) (a : List S0) (f : Int → S9 → σ → Option (Bool × σ)) (st : Nat → σ) (hl : a.length ≤ 1000000) (hn : a.length < n) (h : ∀ i, i < a.length → f (i : Int) (Eg a i) (st i) = some (true, st (i + 1))) : g160_0 n a f (st 0) = some (st a.length) :=
 l160_all n a f st hl h n 0 (by omega) (by omega)
end Go.Av
end
