/- the plain law, part 15 -/
import Derived.Test.YtahhhfgmcdajhaaP14
set_option autoImplicit false
set_option linter.unusedSimpArgs false
set_option linter.unusedVariables false
set_option linter.unnecessarySimpa false
section
set_option linter.unusedSimpArgs false
set_option linter.unusedVariables false
set_option maxHeartbeats 1000000
namespace Go.Av
theorem xor_rng (a b : Int) : isU64 (bitsA .xor .u64 a b) := by unfold bitsA; exact wrap_u64_range _
theorem l59_ok {n : Nat} : ∀ (m k : Nat) (x1 : Int) (x2 : List Int), 0 ≤ x1 → x1 < 128 ^ (m + 1) → m < k → x2.length + m ≤ 1000 → ∃ r, l59_0 n k x1 x2 = some r ∧ r.c0.length ≤ x2.length + m + 1 := by
 intro m
 induction m with
 | zero =>
  intro k x1 x2 h0 h1 hk hl
  obtain ⟨k, rfl⟩ : ∃ q, k = q + 1 := ⟨k - 1, by omega⟩
  rw [l59_0, if_neg (by simp at h1; omega), if_pos (by omega)]
  exact ⟨_, rfl, by simp⟩
 | succ m ih =>
  intro k x1 x2 h0 h1 hk hl
  obtain ⟨k, rfl⟩ : ∃ q, k = q + 1 := ⟨k - 1, by omega⟩
  rw [l59_0]
  by_cases c : 128 ≤ x1
  ·rw [if_pos c, if_pos (by omega)]
   have e : Int.fdiv x1 128 = x1 / 128 := Int.fdiv_eq_ediv_of_nonneg _ (by omega)
   rw [e]
   have h2 : x1 / 128 < 128 ^ (m + 1) := by
    refine Int.ediv_lt_of_lt_mul (by omega) ?_
    rw [← Int.pow_succ]; exact h1
   obtain ⟨r, e1, e2⟩ := ih k (x1 / 128) (x2 ++ [bitsA .or .u8 (IntKind.u8.wrap x1) 128]) (Int.ediv_nonneg h0 (by omega)) h2 (by omega) (by simp; omega)
   exact ⟨r, e1, by simp at e2; omega⟩
  ·rw [if_neg c, if_pos (by omega)]
   exact ⟨_, rfl, by simp⟩
theorem g59_ok {n : Nat} (hn : 100 < n) {x : Int} (h : isU64 x) : ∃ r, g59 n ⟨[]⟩ x = some r ∧ r.c0.length ≤ 10 := by
 unfold g59
 obtain ⟨r, e1, e2⟩ := l59_ok (n := n) 9 n x [] h.1 (by have := h.2; omega) (by omega) (by simp)
 exact ⟨r, e1, by simpa using e2⟩
theorem g46_ok {n : Nat} {l : List Int} (h : l.length ≤ 1000) : g46 n l = some l := by unfold g46; rw [if_pos (by omega)]
/-- what a number is written as -/
theorem enc_ok {n : Nat} (hn : 100 < n) (b : Int) : ∃ w e, g31 n ⟨[]⟩ b = some w ∧ g32 n w = some e ∧ e.length ≤ 10 := by
 unfold g31 g60 g32
 obtain ⟨r, e1, e2⟩ := g59_ok hn (x := bitsA .xor .u64 (IntKind.u64.wrap ((IntKind.u64.wrap b) * 2)) (IntKind.u64.wrap (Int.fdiv b 9223372036854775808))) (xor_rng _ _)
 refine ⟨r, r.c0, ?_, ?_, e2⟩
 ·rw [Option.bind_some, e1]; try rfl
 ·rw [g46_ok (by omega)]; try rfl
section
variable {σ : Type} {n : Nat}
theorem l97_1_ok {REC : Int → σ → Option σ} {a : List Int} (ha : a.length ≤ 100000) {f : Int → σ → Option (Bool × σ)} {i : Nat} (hi : i < a.length) {s : σ} : ∀ (k : Nat) (x6 : Int) (j : Nat), i ≤ j → j ≤ min a.length (i + 8) → min a.length (i + 8) - j < k →
  ∃ w, l97_0_1 n REC a f (i : Int) s k x6 (j : Int) = (f w s).bind fun v14 => if v14.1 = true then (REC (((i + 8 : Nat) : Int)) v14.2) else (some v14.2) := by
 intro k
 induction k with
 | zero => intro x6 j _ _ hf; omega
 | succ k ih =>
  intro x6 j h1 h2 hf
  rw [l97_0_1]
  have w8 : IntKind.i64.wrap ((i : Int) + 8) = ((i + 8 : Nat) : Int) := by rw [wrap_i64 (by omega) (by omega)]; rfl
  rw [w8]
  have hm : (if (a.length : Int) < ((i + 8 : Nat) : Int) then (a.length : Int) else ((i + 8 : Nat) : Int)) = ((min a.length (i + 8) : Nat) : Int) := by split <;> omega
  rw [hm]
  by_cases c : j < min a.length (i + 8)
  ·rw [if_pos (by omega), if_pos (by omega)]
   have w1 : IntKind.i64.wrap ((j : Int) - (i : Int)) = ((j - i : Nat) : Int) := by rw [wrap_i64 (by omega) (by omega)]; omega
   have w2 : IntKind.i64.wrap (8 * ((j - i : Nat) : Int)) = ((8 * (j - i) : Nat) : Int) := by rw [wrap_i64 (by omega) (by omega)]; omega
   have w3 : IntKind.i64.wrap ((j : Int) + 1) = ((j + 1 : Nat) : Int) := by rw [wrap_i64 (by omega) (by omega)]; rfl
   rw [w1, w2, if_pos (by omega), w3]
   exact ih _ (j + 1) (by omega) (by omega) (by omega)
  ·rw [if_neg (by omega)]
   exact ⟨x6, rfl⟩
theorem l97_ok {a : List Int} (ha : a.length ≤ 100000) (hn : 100 < n) {f : Int → σ → Option (Bool × σ)} (P : Nat → σ → Prop) (hf : ∀ m w s, m ≤ a.length → P m s → ∃ s', f w s = some (true, s') ∧ P (m + 1) s') : ∀ (k i m : Nat) (s : σ), a.length - i < k → m ≤ i → m ≤ a.length → i ≤ a.length + 8 → P m s →
  ∃ r m', l97_0_0 n a f k (i : Int) s = some r ∧ m' ≤ a.length ∧ P m' r := by
 intro k
 induction k with
 | zero => intro i m s hf; omega
 | succ k ih =>
  intro i m s hk hm hm2 hi hP
  rw [l97_0_0]
  by_cases c : i < a.length
  ·rw [if_pos (by omega)]
   obtain ⟨w, e⟩ := l97_1_ok (n := n) (REC := l97_0_0 n a f k) ha (f := f) c (s := s) n 0 i (by omega) (by omega) (by omega)
   obtain ⟨s', e2, hP2⟩ := hf m w s hm2 hP
   rw [e, e2, Option.bind_some, if_pos rfl]
   exact ih (i + 8) (m + 1) s' (by omega) (by omega) (by omega) (by omega) hP2
  ·rw [if_neg (by omega)]
   exact ⟨s, m, rfl, hm2, hP⟩
theorem l107_1_ok {REC : Int → σ → Option σ} {a : List UInt8} (ha : a.length ≤ 100000) {f : Int → σ → Option (Bool × σ)} {i : Nat} (hi : i < a.length) {s : σ} : ∀ (k : Nat) (x6 : Int) (j : Nat), i ≤ j → j ≤ min a.length (i + 8) → min a.length (i + 8) - j < k →
  ∃ w, l107_0_1 n REC a f (i : Int) s k x6 (j : Int) = (f w s).bind fun v14 => if v14.1 = true then (REC (((i + 8 : Nat) : Int)) v14.2) else (some v14.2) := by
 intro k
 induction k with
 | zero => intro x6 j _ _ hf; omega
 | succ k ih =>
  intro x6 j h1 h2 hf
  rw [l107_0_1]
  have w8 : IntKind.i64.wrap ((i : Int) + 8) = ((i + 8 : Nat) : Int) := by rw [wrap_i64 (by omega) (by omega)]; rfl
  rw [w8]
  have hm : (if (a.length : Int) < ((i + 8 : Nat) : Int) then (a.length : Int) else ((i + 8 : Nat) : Int)) = ((min a.length (i + 8) : Nat) : Int) := by split <;> omega
  rw [hm]
  by_cases c : j < min a.length (i + 8)
  ·rw [if_pos (by omega), if_pos (by omega)]
   have w1 : IntKind.i64.wrap ((j : Int) - (i : Int)) = ((j - i : Nat) : Int) := by rw [wrap_i64 (by omega) (by omega)]; omega
   have w2 : IntKind.i64.wrap (8 * ((j - i : Nat) : Int)) = ((8 * (j - i) : Nat) : Int) := by rw [wrap_i64 (by omega) (by omega)]; omega
   have w3 : IntKind.i64.wrap ((j : Int) + 1) = ((j + 1 : Nat) : Int) := by rw [wrap_i64 (by omega) (by omega)]; rfl
   rw [w1, w2, if_pos (by omega), w3]
   exact ih _ (j + 1) (by omega) (by omega) (by omega)
  ·rw [if_neg (by omega)]
   exact ⟨x6, rfl⟩
theorem l107_ok {a : List UInt8} (ha : a.length ≤ 100000) (hn : 100 < n) {f : Int → σ → Option (Bool × σ)} (hf : ∀ w s, ∃ s', f w s = some (true, s')) : ∀ (k i : Nat) (s : σ), a.length - i < k → i ≤ a.length + 8 →
  ∃ r, l107_0_0 n a f k (i : Int) s = some r := by
 intro k
 induction k with
 | zero => intro i s hf; omega
 | succ k ih =>
  intro i s hk hi
  rw [l107_0_0]
  by_cases c : i < a.length
  ·rw [if_pos (by omega)]
   obtain ⟨w, e⟩ := l107_1_ok (n := n) (REC := l107_0_0 n a f k) ha (f := f) c (s := s) n 0 i (by omega) (by omega) (by omega)
   obtain ⟨s', e2⟩ := hf w s
   rw [e, e2, Option.bind_some, if_pos rfl]
   exact ih (i + 8) s' (by omega) (by omega)
  ·rw [if_neg (by omega)]
   exact ⟨s, rfl⟩
end
theorem l84_ok {n : Nat} {l : List Int} (hl : l.length ≤ 100000) : ∀ (k i : Nat) (h : Int), l.length - i < k → i ≤ l.length → ∃ r, l84_0 n l k (i : Int) h = some r ∧ isU64 r := by
 intro k
 induction k with
 | zero => intro i h hf; omega
 | succ k ih =>
  intro i h hk hi
  rw [l84_0]
  by_cases c : i < l.length
  ·rw [if_pos (by omega), if_pos (by omega)]
   have w3 : IntKind.i64.wrap ((i : Int) + 1) = ((i + 1 : Nat) : Int) := by rw [wrap_i64 (by omega) (by omega)]; rfl
   unfold g99
   rw [Option.bind_some, w3]
   exact ih (i + 1) _ (by omega) (by omega)
  ·rw [if_neg (by omega)]
   unfold g99
   exact ⟨_, rfl, xor_rng _ _⟩
theorem g84_ok {n : Nat} (hn : 100 < n) {a : List UInt8} (ha : a.length ≤ 50) {l : List Int} (hl : l.length ≤ 50) : ∃ r, g84 n a l = some r ∧ isU64 r := by
 unfold g84 g98 g107_0
 obtain ⟨r, e⟩ := l107_ok (n := n) (a := a) (by omega) hn (f := fun (w6 : Int) (s : Int) => (g99 n s w6).bind fun v7 => some (true, v7)) (fun w s => ⟨_, rfl⟩) n 0 0 (by omega) (by omega)
 rw [show ((0 : Nat) : Int) = 0 from rfl] at e
 rw [Option.bind_some, e, Option.bind_some]
 unfold g99
 rw [Option.bind_some, Option.bind_some]
 exact l84_ok (by omega) n 0 _ (by omega) (by omega)
theorem g61_ok {n : Nat} (hn : 100 < n) {a : List UInt8} (ha : a.length ≤ 50) {l : List Int} (hl : l.length ≤ 40) : ∃ r, g61 n a l = some r ∧ isU64 r := by
 unfold g61 g83 g97_0
 obtain ⟨r, m, e, h1, h2⟩ := l97_ok (n := n) (a := l) (by omega) hn (f := fun (w6 : Int) (s : List Int) => if s.length + 1 ≤ 17592186044416 then (some (true, s ++ ([IntKind.i64.wrap w6] : List Int))) else none) (fun m s => s.length ≤ m) (fun m w s hm h => ⟨_, if_pos (by omega), by simp; omega⟩) n 0 0 [] (by omega) (by omega) (by omega) (by omega) (by simp)
 rw [show ((0 : Nat) : Int) = 0 from rfl] at e
 rw [Option.bind_some, e, Option.bind_some, if_pos (by omega)]
 obtain ⟨q, e2, e3⟩ := g84_ok hn ha (l := r ++ [(l.length : Int)]) (by simp; omega)
 rw [e2]
 exact ⟨q, rfl, e3⟩
/-- what a task stands for -/
theorem res_ok {n : Nat} (hn : 100 < n) {l : List Int} (hl : l.length ≤ 40) : ∃ r, g33 n l = some r ∧ r.length ≤ 10 := by
 unfold g33
 obtain ⟨q, e, hq⟩ := g61_ok hn (a := [114, 101, 115, 117, 108, 116]) (by simp) hl
 rw [e, Option.bind_some]
 obtain ⟨w, e1, e2⟩ := g59_ok hn hq
 rw [e1, Option.bind_some]
 unfold g32
 rw [g46_ok (by omega)]
 exact ⟨w.c0, rfl, e2⟩
end Go.Av
end
