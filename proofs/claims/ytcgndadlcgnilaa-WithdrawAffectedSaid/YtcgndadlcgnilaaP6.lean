/- the plain law, part 6 -/
import Derived.Test.YtcgndadlcgnilaaP5
set_option autoImplicit false
set_option linter.unusedSimpArgs false
set_option linter.unusedVariables false
set_option linter.unnecessarySimpa false
section
namespace Go.Av
def le : List Int → Int
 | [] => 0
 | b :: t => b + 256 * le t
def U8s (l : List Int) : Prop := ∀ b, b ∈ l → 0 ≤ b ∧ b < 256
theorem le_range : ∀ l, U8s l → 0 ≤ le l ∧ le l < 256 ^ l.length
 | [], _ => by simp [le]
 | b :: t, h => by
  have h1 := h b (List.mem_cons_self ..)
  have h2 := le_range t (fun x hx => h x (List.mem_cons_of_mem _ hx))
  simp only [le, List.length_cons, Int.pow_succ]
  omega
theorem le_snoc : ∀ (l : List Int) (b : Int), le (l ++ [b]) = le l + b * 256 ^ l.length
 | [], b => by simp [le]
 | a :: t, b => by
  simp only [List.cons_append, le, le_snoc t b, List.length_cons, Int.pow_succ, Int.mul_add, Int.add_assoc]
  congr 2
  rw [← Int.mul_assoc, Int.mul_comm 256 b, Int.mul_assoc, Int.mul_comm 256]
theorem pow256 (j : Nat) (h : j ≤ 8) : (256 : Int) ^ j ≤ 18446744073709551616 := by
 have hx : j = 0 ∨ j = 1 ∨ j = 2 ∨ j = 3 ∨ j = 4 ∨ j = 5 ∨ j = 6 ∨ j = 7 ∨ j = 8 := by omega
 rcases hx with rfl | rfl | rfl | rfl | rfl | rfl | rfl | rfl | rfl <;> decide
theorem orA (x b : Nat) (hx : x < 18446744073709551616) (hb : b < 18446744073709551616) : bitsA .or .u64 (x : Int) (b : Int) = IntKind.u64.wrap ((x ||| b : Nat) : Int) := by
 show IntKind.u64.wrap (((BitVec.ofInt 64 (x : Int) ||| BitVec.ofInt 64 (b : Int)).toNat : Nat) : Int) = _
 rw [BitVec.toNat_or, BitVec.toNat_ofInt, BitVec.toNat_ofInt]
 congr 3 <;> omega
theorem or_add (x b : Int) (j : Nat) (hj : j < 8) (h0 : 0 ≤ x) (h1 : x < 256 ^ j) (b0 : 0 ≤ b) (b1 : b < 256) : bitsA .or .u64 x (IntKind.u64.wrap (b * 2 ^ (8 * j))) = x + b * 256 ^ j := by
 have e : (2 : Int) ^ (8 * j) = 256 ^ j := by rw [Int.pow_mul]; rfl
 have hp := pow256 (j + 1) (by omega)
 rw [Int.pow_succ] at hp
 have hb : b * 256 ^ j ≤ 255 * 256 ^ j := Int.mul_le_mul_of_nonneg_right (by omega) (Int.pow_nonneg (by omega))
 have hb0 : 0 ≤ b * 256 ^ j := Int.mul_nonneg b0 (Int.pow_nonneg (by omega))
 rw [e, wrap_u64 hb0 (by omega)]
 obtain ⟨x, rfl⟩ := Int.eq_ofNat_of_zero_le h0
 obtain ⟨b, rfl⟩ := Int.eq_ofNat_of_zero_le b0
 have h1' : x < 2 ^ (8 * j) := by
  have : (256 : Int) ^ j = ((2 ^ (8 * j) : Nat) : Int) := by rw [← e]; simp
  omega
 have hn : ((b : Int) * 256 ^ j) = ((2 ^ (8 * j) * b : Nat) : Int) := by
  rw [← e, Int.natCast_mul, Int.mul_comm]; simp
 have hx : (x : Int) < 18446744073709551616 := by have := pow256 j (by omega); omega
 rw [hn] at hb hb0 ⊢
 rw [orA _ _ (by omega) (by omega), Nat.or_comm, ← Nat.two_pow_add_eq_or_of_lt h1', wrap_u64 (by omega) (by omega)]
 omega
def wsF : Nat → List Int → List Int
 | 0, _ => []
 | k + 1, l => if l = [] then [] else le (l.take 8) :: wsF k (l.drop 8)
def foldW {σ : Type} (f : Int → σ → Option (Bool × σ)) : List Int → σ → Option σ
 | [], s => some s
 | w :: t, s => (f w s).bind fun r => if r.1 = true then foldW f t r.2 else some r.2
theorem take_snoc (l : List Int) (i j : Nat) (h : i + j < l.length) : (l.drop i).take (j + 1) = (l.drop i).take j ++ [rd l ((i + j : Nat) : Int)] := by
 rw [List.take_add_one, List.getElem?_drop, List.getElem?_eq_getElem h, rd_nat l _ h]; rfl
theorem U8s_take {l : List Int} (h : U8s l) (i j : Nat) : U8s ((l.drop i).take j) := fun b hb => h b (List.mem_of_mem_drop (List.mem_of_mem_take hb))
theorem l53_1_ok {σ : Type} (n : Nat) (R : Int → σ → Option σ) (a : List Int) (f : Int → σ → Option (Bool × σ)) (i : Nat) (s : σ) (ha : a.length ≤ 900) (hi : i < a.length) (hu : U8s a) : ∀ (k j : Nat), 8 - j < k → j ≤ 8 → i + j ≤ a.length →
  l53_0_1 n R a f (i : Int) s k (le ((a.drop i).take j)) ((i + j : Nat) : Int) = (f (le ((a.drop i).take 8)) s).bind fun r => if r.1 = true then R ((i + 8 : Nat) : Int) r.2 else some r.2
 | 0, _, h, _, _ => by omega
 | k + 1, j, hk, hj, hl => by
  unfold l53_0_1
  have w8 : IntKind.i64.wrap ((i : Int) + 8) = ((i + 8 : Nat) : Int) := by rw [wrap_i64 (by omega) (by omega)]; omega
  have mn : (if (a.length : Int) < ((i + 8 : Nat) : Int) then (a.length : Int) else ((i + 8 : Nat) : Int)) = ((min a.length (i + 8) : Nat) : Int) := by
   split <;> omega
  rw [w8, mn]
  by_cases c : j < 8 ∧ i + j < a.length
  ·have wj : IntKind.i64.wrap (8 * IntKind.i64.wrap (((i + j : Nat) : Int) - (i : Int))) = ((8 * j : Nat) : Int) := by
    rw [wrap_i64 (x := _ - _) (by omega) (by omega), wrap_i64 (by omega) (by omega)]; omega
   have hb := hu _ (mem_rd a (i + j) c.2)
   have hr := le_range _ (U8s_take hu i j)
   have hlen : ((a.drop i).take j).length = j := by simp; omega
   rw [hlen] at hr
   rw [if_pos (by omega), if_pos (by omega), wj, if_pos (by omega), Int.toNat_natCast, show min (8 * j) IntKind.u64.bits = 8 * j from Nat.min_eq_left (by simp [IntKind.bits]; omega), wrap_u64 (x := rd a _) hb.1 (by omega),
    or_add _ _ j (by omega) hr.1 hr.2 hb.1 hb.2, wsucc (i + j) (by omega)]
   have e : le ((a.drop i).take j) + rd a ((i + j : Nat) : Int) * 256 ^ j = le ((a.drop i).take (j + 1)) := by
    rw [take_snoc a i j c.2, le_snoc, hlen]
   rw [e]
   exact l53_1_ok n R a f i s ha hi hu k (j + 1) (by omega) (by omega) (by omega)
  ·rw [if_neg (by omega)]
   have : (a.drop i).take j = (a.drop i).take 8 := by
    rcases Nat.lt_or_ge j 8 with h | h
    ·rw [List.take_of_length_le (by simp; omega), List.take_of_length_le (by simp; omega)]
    ·have : j = 8 := by omega
     rw [this]
   rw [this]
theorem l53_0_ok {σ : Type} (n : Nat) (hn : 1000 ≤ n) (a : List Int) (f : Int → σ → Option (Bool × σ)) (ha : a.length ≤ 900) (hu : U8s a) : ∀ (k i : Nat) (s : σ), a.length - i < k → l53_0_0 n a f k (i : Int) s = foldW f (wsF k (a.drop i)) s
 | 0, _, _, h => by omega
 | k + 1, i, s, hk => by
  unfold l53_0_0 wsF
  by_cases c : i < a.length
  ·have hne : a.drop i ≠ [] := by intro h; have := congrArg List.length h; simp at this; omega
   rw [if_pos (by omega), if_neg hne]
   have := l53_1_ok n (l53_0_0 n a f k) a f i s ha c hu n 0 (by omega) (by omega) (by omega)
   simp only [List.take_zero, Nat.add_zero] at this
   rw [show (0 : Int) = le [] from rfl, this]
   simp only [foldW, l53_0_ok n hn a f ha hu k (i + 8) _ (by omega), List.drop_drop]
  ·rw [if_neg (by omega), List.drop_eq_nil_of_le (by omega), if_pos rfl]; rfl
theorem g53_ok {σ : Type} (n : Nat) (hn : 1000 ≤ n) (a : List Int) (f : Int → σ → Option (Bool × σ)) (ha : a.length ≤ 900) (hu : U8s a) (s : σ) : g53_0 n a f s = foldW f (wsF n a) s :=
 l53_0_ok n hn a f ha hu n 0 s (by omega)
theorem l40_1_ok (n : Nat) (R : List Int → Int → Option (List Int)) (a acc : List Int) (i : Nat) (ha : a.length ≤ 900) (hi : i < a.length) (hu : U8s a) (hacc : acc.length ≤ 1000) : ∀ (k j : Nat), j < k → j ≤ 8 → i + j ≤ a.length →
  l40_1 n R a acc (i : Int) k (le (((a.drop i).take 8).drop j)) ((i : Int) + (j : Int) - 1) = R (acc ++ [le ((a.drop i).take 8)]) ((i + 8 : Nat) : Int)
 | 0, _, h, _, _ => by omega
 | k + 1, 0, hk, hj, hl => by
  unfold l40_1
  rw [if_neg (by omega), if_pos (by omega), List.drop_zero]
  congr 1
  rw [wrap_i64 (by omega) (by omega)]; omega
 | k + 1, j + 1, hk, hj, hl => by
  unfold l40_1
  have e1 : ((i : Int) + ((j + 1 : Nat) : Int) - 1) = ((i + j : Nat) : Int) := by omega
  have hb := hu _ (mem_rd a (i + j) (by omega))
  have hlt : j < ((a.drop i).take 8).length := by simp; omega
  have ed : ((a.drop i).take 8).drop j = rd a ((i + j : Nat) : Int) :: ((a.drop i).take 8).drop (j + 1) := by
   rw [List.drop_eq_getElem_cons hlt]
   congr 1
   rw [List.getElem_take, List.getElem_drop, rd_nat a (i + j) (by omega)]
  have u := U8s_take hu i 8
  have hr := le_range (((a.drop i).take 8).drop (j + 1)) (fun b hb => u b (List.mem_of_mem_drop hb))
  have hlen : (((a.drop i).take 8).drop (j + 1)).length ≤ 7 - j := by simp; omega
  have hp : (256 : Int) ^ (((a.drop i).take 8).drop (j + 1)).length ≤ 72057594037927936 := by
   have : (((a.drop i).take 8).drop (j + 1)).length ≤ 7 := by omega
   generalize (((a.drop i).take 8).drop (j + 1)).length = m at this
   have hx : m = 0 ∨ m = 1 ∨ m = 2 ∨ m = 3 ∨ m = 4 ∨ m = 5 ∨ m = 6 ∨ m = 7 := by omega
   rcases hx with rfl | rfl | rfl | rfl | rfl | rfl | rfl | rfl <;> decide
  rw [e1, if_pos (by omega), if_pos (by omega), wrap_u64 (x := 256 * _) (by omega) (by omega), wrap_u64 (x := rd a _) hb.1 (by omega), wrap_u64 (by omega) (by omega)]
  have e2 : 256 * le (((a.drop i).take 8).drop (j + 1)) + rd a ((i + j : Nat) : Int) = le (((a.drop i).take 8).drop j) := by
   rw [ed]; simp only [le]; omega
  have e3 : IntKind.i64.wrap (((i + j : Nat) : Int) - 1) = (i : Int) + (j : Int) - 1 := by rw [wrap_i64 (by omega) (by omega)]; omega
  rw [e2, e3]
  exact l40_1_ok n R a acc i ha hi hu hacc k j (by omega) (by omega) (by omega)
theorem l40_0_ok (n : Nat) (hn : 1000 ≤ n) (a : List Int) (ha : a.length ≤ 900) (hu : U8s a) : ∀ (k i : Nat) (acc : List Int), a.length - i < k → acc.length ≤ i → i ≤ a.length + 8 → l40_0 n a k acc (i : Int) = some (acc ++ wsF k (a.drop i))
 | 0, _, _, h, _, _ => by omega
 | k + 1, i, acc, hk, hl, hi => by
  unfold l40_0 wsF
  by_cases c : i < a.length
  ·have hne : a.drop i ≠ [] := by intro h; have := congrArg List.length h; simp at this; omega
   rw [if_pos (by omega), if_neg hne]
   have w8 : IntKind.i64.wrap ((i : Int) + 8) = ((i + 8 : Nat) : Int) := by rw [wrap_i64 (by omega) (by omega)]; omega
   have mn : (if (a.length : Int) < ((i + 8 : Nat) : Int) then (a.length : Int) else ((i + 8 : Nat) : Int)) = (i : Int) + ((min (a.length - i) 8 : Nat) : Int) := by
    split <;> omega
   rw [w8, mn, wrap_i64 (by omega) (by omega)]
   have := l40_1_ok n (l40_0 n a k) a acc i ha c hu (by omega) n (min (a.length - i) 8) (by omega) (by omega) (by omega)
   rw [List.drop_eq_nil_of_le (by simp; omega)] at this
   rw [show (0 : Int) = le [] from rfl, this, l40_0_ok n hn a ha hu k (i + 8) _ (by omega) (by simp; omega) (by omega), List.drop_drop]
   simp
  ·rw [if_neg (by omega), List.drop_eq_nil_of_le (by omega), if_pos rfl]; simp
theorem g40_ok (n : Nat) (hn : 1000 ≤ n) (a : List Int) (ha : a.length ≤ 900) (hu : U8s a) : g40 n a = some (wsF n a) := by
 have := l40_0_ok n hn a ha hu n 0 [] (by omega) (by simp) (by omega)
 simpa [g40] using this
theorem wsF_len : ∀ (k : Nat) (l : List Int), (wsF k l).length ≤ l.length
 | 0, l => by simp [wsF]
 | k + 1, l => by
  unfold wsF
  by_cases c : l = []
  ·rw [if_pos c]; simp
  ·rw [if_neg c, List.length_cons]
   have h1 := wsF_len k (l.drop 8)
   have h2 : l.length ≠ 0 := fun h => c (List.eq_nil_of_length_eq_zero h)
   rw [List.length_drop] at h1; omega
end Go.Av
end
