/- the plain law, part 25 -/
import Derived.Test.YtcgndadlcgnilaaGreatP24
set_option autoImplicit false
set_option linter.unusedSimpArgs false
set_option linter.unusedVariables false
set_option linter.unnecessarySimpa false
section
namespace Go.Av
theorem vu_u8 : ∀ (k x : Nat), x < 128 ^ k → 0 < k → ∀ b, b ∈ vu x → (0 : Int) ≤ b ∧ b < 256
 | 0, _, _, h => by omega
 | k + 1, x, h, _ => fun b hb => by
  by_cases c : x < 128
  ·rw [vu_lt c, List.mem_singleton] at hb; omega
  ·rw [vu_ge c] at hb
   rcases List.mem_cons.1 hb with hb | hb
   ·omega
   ·cases k with
    | zero => omega
    | succ k =>
     refine vu_u8 (k + 1) (x / 128) ?_ (by omega) b hb
     rw [Nat.div_lt_iff_lt_mul (by decide)]; rw [Nat.pow_succ] at h; exact h
theorem vu_u810 {x : Nat} (h : x < 18446744073709551616) : ∀ b, b ∈ vu x → (0 : Int) ≤ b ∧ b < 256 := vu_u8 10 x (Nat.lt_of_lt_of_le h (by decide)) (by decide)
theorem vi_u8 {a : Int} (h : isI64 a) : ∀ b, b ∈ vi a → (0 : Int) ≤ b ∧ b < 256 := vu_u810 (zz2_lt h)
theorem vw_u8 {a : Int} (h : isU64 a) : ∀ b, b ∈ vw a → (0 : Int) ≤ b ∧ b < 256 := vu_u810 (by have := h.2; have := h.1; omega)
theorem fl_u8 (f : Int → List Int) (a : List Int) (h : ∀ x, x ∈ a → ∀ b, b ∈ f x → (0 : Int) ≤ b ∧ b < 256) : ∀ b, b ∈ fl f a → (0 : Int) ≤ b ∧ b < 256 := fun b hb => by
 unfold fl at hb
 obtain ⟨l, hl, hb⟩ := List.mem_flatten.1 hb
 obtain ⟨x, hx, rfl⟩ := List.mem_map.1 hl
 exact h x hx b hb
theorem vis_u8 {a : List Int} (h : a.length < 1000 ∧ ∀ x, x ∈ a → isI64 x) : ∀ b, b ∈ vis a → (0 : Int) ≤ b ∧ b < 256 := fun b hb => by
 rcases List.mem_append.1 hb with hb | hb
 ·exact vu_u810 (by omega) b hb
 ·exact fl_u8 vi a (fun x hx => vi_u8 (h.2 x hx)) b hb
theorem vws_u8 {a : List Int} (h : a.length < 1000 ∧ ∀ x, x ∈ a → isU64 x) : ∀ b, b ∈ vws a → (0 : Int) ≤ b ∧ b < 256 := fun b hb => by
 rcases List.mem_append.1 hb with hb | hb
 ·exact vi_u8 ⟨by omega, by omega⟩ b hb
 ·exact fl_u8 vw a (fun x hx => vw_u8 (h.2 x hx)) b hb
theorem encR_u8 {r : S8} (h : okR r) : ∀ b, b ∈ encR r → (0 : Int) ≤ b ∧ b < 256 := fun b hb => by
 unfold encR at hb
 simp only [List.mem_append] at hb
 rcases hb with (((((hb | hb) | hb) | hb) | hb) | hb) | hb
 ·exact vi_u8 h.c0 b hb
 ·exact vi_u8 h.c1 b hb
 ·exact vis_u8 h.c2 b hb
 ·exact vis_u8 h.c3 b hb
 ·exact vws_u8 h.c4 b hb
 ·exact vws_u8 h.c5 b hb
 ·exact vws_u8 h.c6 b hb
theorem encR_small {r : S8} (h : okR r) (hs : small 6 r) : (encR r).length ≤ 400 := by
 have l0 := vi_len h.c0
 have l1 := vi_len h.c1
 have l2 := vis_len h.c2
 have l3 := vis_len h.c3
 have l4 := vws_len h.c4
 have l5 := vws_len h.c5
 have l6 := vws_len h.c6
 obtain ⟨s2, s3, s4, s5, s6⟩ := hs
 simp [encR]; omega
/-- one of the three byte slices -/
theorem step6 (n : Nat) (b : List Int) (K : Option Bool) (h : ED n b (g25 n b)) (hb : b.length < n) (h2 : n < 1000000) :
  ((g25 n b).bind fun v => if v.2 = 0 then (if v.2 = 0 then ((g24 n (⟨v.1.c0, v.1.c1, v.1.c2, v.1.c3, v.1.c4, v.1.c5, v.1.c6⟩ : S8)).bind fun w => (g27 n w b).bind fun z => if z = true then K else (some false)) else K)
   else (if v.2 = 2 then (if 0 < (v.1.c2.length : Int) then (some false) else (if v.2 = 0 then ((g24 n (⟨v.1.c0, v.1.c1, v.1.c2, v.1.c3, v.1.c4, v.1.c5, v.1.c6⟩ : S8)).bind fun w => (g27 n w b).bind fun z => if z = true then K else (some false)) else K)) else (some false))) = K := by
 obtain ⟨r, c, e, ⟨rfl, _, h3⟩ | ⟨rfl, h3⟩⟩ := h
 ·rw [e]; simp only [Option.bind_some, if_true, h3, g27_eq n b b hb h2, decide_true]
 ·rw [e]; simp only [Option.bind_some, h3]
  rw [if_neg (by decide), if_pos trivial, if_neg (by decide)]
  first | done | rw [if_neg (by decide)]
theorem pureWB (l m : List Int) (a2 a3 : Int) (a4 : List Int) (a5 a6 : Int) (hl : ∀ n, n ∈ l → isI64 n) (hm : ∀ n, n ∈ m → isI64 n) (h2 : isI64 a2) (h3 : isI64 a3) (h4 : ∀ n, n ∈ a4 → 0 ≤ n ∧ n < 256) (h5 : isI64 a5) (h6 : 0 ≤ a6 ∧ a6 < 256) (h17 : g17 100000 = some true) : ∃ n, g6 n l m a2 a3 a4 a5 a6 = some true := by
 refine ⟨100000, ?_⟩
 have hn : 60000 ≤ 100000 ∧ 100000 < 1000000 := by omega
 generalize hN : 100000 = n at *
 obtain ⟨n1, n2⟩ := hn
 clear hN
 obtain ⟨r, e18, s1, o1⟩ := g18_oku n (by omega) l m 5 a2 hl hm h2 ⟨by decide, by decide⟩
 obtain ⟨x, e19, s2, o2⟩ := bent_oku n r.1 5 (by omega) s1 o1 a2 a3 h2 h3
 have hL := encR_small o2 s2
 have hU := encR_u8 o2
 have e24 := g24_enc n (by omega) n2 x o2
 have e25 := g25_enc n (by omega) n2 x o2 (by omega)
 have e28 := g28_enc n (by omega) n2 x o2
 have e15 := g15_refl n (by omega) x o2.c2.1 o2.c3.1 o2.c4.1 o2.c5.1 o2.c6.1
 have e26 : g26 n (encR x) = some ⟨encR x, 0⟩ := by unfold g26 g57; rw [if_pos (by omega)]; rfl
 have e27 := g27_eq n (encR x) (encR x) (by omega) n2
 have e29 : ∃ s, g29 n ⟨encR x, 0⟩ = some (x.c0, s) := by
  refine ⟨⟨vi x.c1 ++ (vis x.c2 ++ (vis x.c3 ++ (vws x.c4 ++ (vws x.c5 ++ vws x.c6)))), 0⟩, ?_⟩
  rw [← g29_vi n _ o2.c0 (by omega)]; simp [encR]
 obtain ⟨s29, e29⟩ := e29
 have hp : 1 ≤ (encR x).length := by
  have := vu_pos (zz2 x.c0)
  simp [encR, vi]; omega
 have e30 : g30_o n (encR x) ((encR x).length : Int) = some (encR x) := by
  unfold g30_o
  rw [if_neg (c := ((encR x).length : Int) < ((encR x).length : Int)) (by omega), Int.toNat_natCast, List.take_length, if_pos (by omega), if_pos (by omega)]
 obtain ⟨i, e7, i0, i1⟩ := ar n a5 ((encR x).length : Int) h5 (by omega)
 have hT : ∃ b, g30 n a4 30 = some b ∧ b.length ≤ 30 ∧ ∀ y, y ∈ b → (0 : Int) ≤ y ∧ y < 256 := by
  refine ⟨List.take (Int.toNat (if (30 : Int) < (a4.length : Int) then 30 else (a4.length : Int))) a4, ?_, ?_, fun y hy => h4 y (List.mem_of_mem_take hy)⟩
  ·unfold g30
   rw [if_pos (by split <;> omega), if_pos (by simp; split <;> omega)]
  ·simp; split <;> omega
 obtain ⟨b, e30', hb, hbu⟩ := hT
 have w1 : IntKind.i64.wrap (((encR x).length : Int) - 1) = (((encR x).length - 1 : Nat) : Int) := wpred _ (by omega) hp
 have D1 := g25_tot n n1 n2 b (by omega) hbu
 have D2 := g25_tot n n1 n2 (List.set (encR x) i.toNat a6) (by simp; omega) (mem_set0 hU h6 _)
 have D3 := g25_tot n n1 n2 (List.take ((encR x).length - 1) (encR x)) (by simp; omega) (fun y hy => hU y (List.mem_of_mem_take hy))
 unfold g6
 simp only [e18, Option.bind_some, etaS8, e19, g21, e24, e25, e26, if_true, g16, e15, e28, e27, decide_true, e29, e30, e7, e30', w1, Int.toNat_natCast]
 rw [if_neg (by omega), if_pos (by omega), if_pos (by omega), if_pos (by omega)]
 rw [step6 n b _ D1 (by omega) n2]
 rw [step6 n _ _ D2 (by simp; omega) n2]
 rw [step6 n _ _ D3 (by simp; omega) n2]
 rw [h17]; rfl
end Go.Av
end
