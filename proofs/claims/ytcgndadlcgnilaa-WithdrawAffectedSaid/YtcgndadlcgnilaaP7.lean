/- the plain law, part 7 -/
import Derived.Test.YtcgndadlcgnilaaP6
set_option autoImplicit false
set_option linter.unusedSimpArgs false
set_option linter.unusedVariables false
set_option linter.unnecessarySimpa false
section
namespace Go.Av
def mx (a b : Int) : Int := (g34 0 a b).getD 0
theorem g34_mx (n : Nat) (a b : Int) : g34 n a b = some (mx a b) := rfl
theorem g41_mx (n : Nat) (a b : Int) : g41 n a b = some (mx a b) := (g34_97 n a b).trans rfl
/-- a string's words: as those of its bytes -/
theorem l52_1_eq {σ : Type} (n : Nat) (R R' : Int → σ → Option σ) (hR : ∀ x y, R x y = R' x y) (a : List UInt8) (f : Int → σ → Option (Bool × σ)) (x : Int) (s : σ) : ∀ (k : Nat) (u v : Int), l52_0_1 n R a f x s k u v = l53_0_1 n R' (bytesOf a) f x s k u v
 | 0, _, _ => rfl
 | k + 1, u, v => by
  unfold l52_0_1 l53_0_1
  have hl : (bytesOf a).length = a.length := by simp [bytesOf]
  rw [hl]
  by_cases c : (0 : Int) ≤ v ∧ v < (a.length : Int)
  ·have e : ((a.getD (Int.toNat v) 0).toNat : Int) = rd (bytesOf a) v := by
    obtain ⟨m, rfl⟩ := Int.eq_ofNat_of_zero_le c.1
    rw [rd_nat _ m (by omega)]
    simp only [bytesOf, List.getElem_map, Int.toNat_natCast]
    rw [List.getD_eq_getElem?_getD, List.getElem?_eq_getElem (by omega), Option.getD_some]
   rw [e, if_pos c, if_pos c, l52_1_eq n R R' hR a f x s k]
   simp only [hR]
  ·rw [if_neg c, if_neg c]
   simp only [hR]
theorem l52_0_eq {σ : Type} (n : Nat) (a : List UInt8) (f : Int → σ → Option (Bool × σ)) : ∀ (k : Nat) (u : Int) (s : σ), l52_0_0 n a f k u s = l53_0_0 n (bytesOf a) f k u s
 | 0, _, _ => rfl
 | k + 1, u, s => by
  unfold l52_0_0 l53_0_0
  have hl : (bytesOf a).length = a.length := by simp [bytesOf]
  rw [hl, l52_1_eq n _ _ (fun x y => l52_0_eq n a f k x y)]
theorem bytesOf_u8 (a : List UInt8) : U8s (bytesOf a) := by
 intro b hb
 obtain ⟨c, _, rfl⟩ := List.mem_map.1 hb
 have := c.toNat_lt
 omega
theorem g52_ok {σ : Type} (n : Nat) (hn : 1000 ≤ n) (a : List UInt8) (f : Int → σ → Option (Bool × σ)) (ha : a.length ≤ 900) (s : σ) : g52_0 n a f s = foldW f (wsF n (bytesOf a)) s := by
 have := g53_ok n hn (bytesOf a) f (by simpa [bytesOf] using ha) (bytesOf_u8 a) s
 unfold g52_0; unfold g53_0 at this
 rw [l52_0_eq, this]
theorem foldW_mx (n : Nat) : ∀ (l : List Int) (s : Int), foldW (fun (w : Int) (s : Int) => (g34 n s w).bind fun v => some (true, v)) l s = some (l.foldl mx s)
 | [], _ => rfl
 | w :: t, s => by
  simp only [foldW, g34_mx, Option.bind_some, if_true, List.foldl_cons]
  exact foldW_mx n t _
def fin (xs : List Int) (h : Int) : Int := mx (xs.foldl (fun h x => mx h (IntKind.u64.wrap x)) h) 0
theorem l19_ok (n : Nat) (xs : List Int) (hx : xs.length ≤ 1000) : ∀ (k i : Nat) (h : Int), xs.length - i < k → l19_0 n xs k (i : Int) h = some (fin (xs.drop i) h)
 | 0, _, _, h => by omega
 | k + 1, i, h, hk => by
  unfold l19_0
  by_cases c : i < xs.length
  ·rw [if_pos (by omega), if_pos (by omega), g34_mx]
   simp only [Option.bind_some]
   rw [wsucc i (by omega), l19_ok n xs hx k (i + 1) _ (by omega), drop_cons xs i c]; rfl
  ·rw [if_neg (by omega), List.drop_eq_nil_of_le (by omega)]; rfl
theorem l23_1_ok (n : Nat) (xs : List Int) (hx : xs.length ≤ 1000) : ∀ (k i : Nat) (h : Int), xs.length - i < k → l23_1 n xs k h (i : Int) = some (fin (xs.drop i) h)
 | 0, _, _, h => by omega
 | k + 1, i, h, hk => by
  unfold l23_1
  by_cases c : i < xs.length
  ·rw [if_pos (by omega), if_pos (by omega), g41_mx]
   simp only [Option.bind_some]
   rw [wsucc i (by omega), l23_1_ok n xs hx k (i + 1) _ (by omega), drop_cons xs i c]; rfl
  ·rw [if_neg (by omega), List.drop_eq_nil_of_le (by omega), g41_mx]; rfl
theorem l23_0_ok (n : Nat) (hn : 1000 ≤ n) (a : List UInt8) (xs ws : List Int) (hx : xs.length ≤ 900) (hw : ws.length ≤ 1000) : ∀ (k i : Nat) (h : Int), ws.length - i < k → l23_0 n a xs ws k h (i : Int) = some (fin xs (mx (mx ((ws.drop i).foldl mx h) (IntKind.u64.wrap (a.length : Int))) (IntKind.u64.wrap (xs.length : Int))))
 | 0, _, _, h => by omega
 | k + 1, i, h, hk => by
  unfold l23_0
  by_cases c : i < ws.length
  ·rw [if_pos (by omega), if_pos (by omega), g41_mx]
   simp only [Option.bind_some]
   rw [wsucc i (by omega), l23_0_ok n hn a xs ws hx hw k (i + 1) _ (by omega), drop_cons ws i c]; rfl
  ·rw [if_neg (by omega), List.drop_eq_nil_of_le (by omega), g41_mx]
   simp only [Option.bind_some, g41_mx]
   have := l23_1_ok n xs (by omega) n 0 (mx (mx (([] : List Int).foldl mx h) (IntKind.u64.wrap (a.length : Int))) (IntKind.u64.wrap (xs.length : Int))) (by omega)
   exact this
/-- Sum of a name and numbers: both the same -/
theorem hsum (n : Nat) (hn : 1000 ≤ n) (a : List UInt8) (xs : List Int) (ha : a.length ≤ 900) (hx : xs.length ≤ 900) : ∃ r, g19 n a xs = some r ∧ g23 n a xs = some r := by
 refine ⟨fin xs (mx (mx ((wsF n (bytesOf a)).foldl mx 0) (IntKind.u64.wrap (a.length : Int))) (IntKind.u64.wrap (xs.length : Int))), ?_, ?_⟩
 ·unfold g19
  rw [g52_ok n hn a _ ha, foldW_mx]
  simp only [Option.bind_some, g34_mx]
  exact l19_ok n xs (by omega) n 0 _ (by omega)
 ·have hl : (bytesOf a).length = a.length := by simp [bytesOf]
  unfold g23
  rw [g40_ok n hn _ (by omega) (bytesOf_u8 a)]
  simp only [Option.bind_some]
  have h1 := wsF_len n (bytesOf a)
  exact l23_0_ok n hn a xs _ hx (by omega) n 0 0 (by omega)
theorem hpair (n : Nat) (hn : 1000 ≤ n) (a b : Int) : ∃ r, g20 n a b = some r ∧ g24 n a b = some r := by
 obtain ⟨r, h1, h2⟩ := hsum n hn [112, 97, 105, 114] [IntKind.i64.wrap a, IntKind.i64.wrap b] (by simp) (by simp)
 exact ⟨r, by unfold g20; rw [h1]; rfl, by unfold g24; rw [h2]; rfl⟩
theorem foldW_app : ∀ (l : List Int) (s : List Int), s.length + l.length ≤ 10000 → foldW (fun (w : Int) (s : List Int) => if s.length + 1 ≤ 17592186044416 then (some (true, s ++ ([IntKind.i64.wrap w] : List Int))) else none) l s = some (s ++ l.map IntKind.i64.wrap)
 | [], _, _ => by simp [foldW]
 | w :: t, s, h => by
  simp only [List.length_cons] at h
  simp only [foldW]
  rw [if_pos (by omega)]
  simp only [Option.bind_some, if_true]
  rw [foldW_app t _ (by simp; omega)]; simp
theorem l25_ok (n : Nat) (a : List UInt8) (bs ws : List Int) (hw : ws.length ≤ 1000) : ∀ (k i : Nat) (acc : List Int), ws.length - i < k → acc.length ≤ i → l25_0 n a bs ws k acc (i : Int) = if (acc ++ (ws.drop i).map IntKind.i64.wrap).length + 1 ≤ 17592186044416 then (g23 n a ((acc ++ (ws.drop i).map IntKind.i64.wrap) ++ [(bs.length : Int)])).bind fun v => some v else none
 | 0, _, _, h, _ => by omega
 | k + 1, i, acc, hk, hl => by
  unfold l25_0
  by_cases c : i < ws.length
  ·rw [if_pos (by omega), if_pos (by omega), if_pos (by omega), wsucc i (by omega), l25_ok n a bs ws hw k (i + 1) _ (by omega) (by simp; omega), drop_cons ws i c]
   simp only [List.map_cons, List.append_assoc, List.singleton_append]
  ·rw [if_neg (by omega), List.drop_eq_nil_of_le (by omega)]; simp only [List.map_nil, List.append_nil]
theorem hbytes (n : Nat) (hn : 1000 ≤ n) (a : List UInt8) (bs : List Int) (ha : a.length ≤ 900) (hb : bs.length ≤ 800) (hu : U8s bs) : ∃ r, g21 n a bs = some r ∧ g25 n a bs = some r := by
 have hw := wsF_len n bs
 obtain ⟨r, h1, h2⟩ := hsum n hn a ((wsF n bs).map IntKind.i64.wrap ++ [(bs.length : Int)]) ha (by simp; omega)
 refine ⟨r, ?_, ?_⟩
 ·unfold g21
  rw [g53_ok n hn bs _ (by omega) hu, foldW_app _ _ (by simp; omega)]
  simp only [Option.bind_some, List.nil_append]
  rw [if_pos (by simp; omega), h1]; rfl
 ·unfold g25
  rw [g40_ok n hn bs (by omega) hu]
  simp only [Option.bind_some]
  have := l25_ok n a bs (wsF n bs) (by omega) n 0 [] (by omega) (by simp)
  rw [show (0 : Int) = ((0 : Nat) : Int) from rfl, this, if_pos (by simp; omega)]
  simp only [List.nil_append, List.drop_zero]
  rw [h2]; rfl
/-- the bytes of a list of numbers -/
def el (l : List Int) : List Int := ub 10 (2 * (l.length : Int)) ++ l.flatMap (ub 10)
theorem l38_ok (n : Nat) (hn : 1000 ≤ n) (l : List Int) (hl : l.length ≤ 40) (hu : ∀ x, x ∈ l → isU64 x) : ∀ (k i : Nat) (acc : List Int), l.length - i < k → i ≤ l.length → acc.length ≤ 1000 + 10 * i → l38_0 n l k (i : Int) acc = some ⟨acc ++ (l.drop i).flatMap (ub 10)⟩
 | 0, _, _, h, _, _ => by omega
 | k + 1, i, acc, hk, hi, ha => by
  unfold l38_0
  by_cases c : i < l.length
  ·have h1 := ub_len 10 (rd l (i : Int))
   rw [if_pos (by omega), if_pos (by omega), g37_ub n hn _ (hu _ (mem_rd l i c)) acc (by omega)]
   simp only [Option.bind_some]
   rw [wsucc i (by omega), l38_ok n hn l hl hu k (i + 1) _ (by omega) (by omega) (by simp; omega), drop_cons l i c]; simp
  ·rw [if_neg (by omega), List.drop_eq_nil_of_le (by omega)]; simp
theorem g38_ok (n : Nat) (hn : 1000 ≤ n) (l : List Int) (hl : l.length ≤ 40) (hu : ∀ x, x ∈ l → isU64 x) (acc : List Int) (ha : acc.length ≤ 900) : g38 n ⟨acc⟩ l = some ⟨acc ++ el l⟩ := by
 unfold g38
 have h1 := ub_len 10 (2 * (l.length : Int))
 rw [g36_ub n hn _ (by omega) (by omega) acc (by omega)]
 simp only [Option.bind_some]
 have := l38_ok n hn l hl hu n 0 (acc ++ ub 10 (2 * (l.length : Int))) (by omega) (by omega) (by simp; omega)
 rw [show (0 : Int) = ((0 : Nat) : Int) from rfl, this]
 simp [el]
theorem l44_ok (n : Nat) (hn : 1000 ≤ n) (l : List Int) (hl : l.length ≤ 40) (hu : ∀ x, x ∈ l → isU64 x) : ∀ (k i : Nat) (acc : List Int), l.length - i < k → i ≤ l.length → acc.length ≤ 1000 + 10 * i → l44_0 n l k acc (i : Int) = some (acc ++ (l.drop i).flatMap (ub 10))
 | 0, _, _, h, _, _ => by omega
 | k + 1, i, acc, hk, hi, ha => by
  unfold l44_0
  by_cases c : i < l.length
  ·have h1 := ub_len 10 (rd l (i : Int))
   rw [if_pos (by omega), if_pos (by omega), g43_ub n hn _ (hu _ (mem_rd l i c))]
   simp only [Option.bind_some]
   rw [if_pos (by omega), wsucc i (by omega), l44_ok n hn l hl hu k (i + 1) _ (by omega) (by omega) (by simp; omega), drop_cons l i c]; simp
  ·rw [if_neg (by omega), List.drop_eq_nil_of_le (by omega)]; simp
theorem g44_ok (n : Nat) (hn : 1000 ≤ n) (l : List Int) (hl : l.length ≤ 40) (hu : ∀ x, x ∈ l → isU64 x) : g44 n l = some (el l) := by
 unfold g44
 have h1 := ub_len 10 (2 * (l.length : Int))
 rw [g42_ub n hn _ (by omega) (by omega)]
 simp only [Option.bind_some]
 have := l44_ok n hn l hl hu n 0 (ub 10 (2 * (l.length : Int))) (by omega) (by omega) (by simp; omega)
 rw [show (0 : Int) = ((0 : Nat) : Int) from rfl, this]
 simp [el]
theorem el_len (l : List Int) (hl : l.length ≤ 20) : (el l).length ≤ 210 := by
 have h1 := ub_len 10 (2 * (l.length : Int))
 have h2 : ∀ m : List Int, (m.flatMap (ub 10)).length ≤ 10 * m.length := by
  intro m
  induction m with
  | nil => simp
  | cons x t ih => have := ub_len 10 x; simp only [List.flatMap_cons, List.length_append, List.length_cons]; omega
 have := h2 l
 simp only [el, List.length_append]; omega
theorem el_u8 (l : List Int) (hu : ∀ x, x ∈ l → isU64 x) : U8s (el l) := by
 intro b hb
 rcases List.mem_append.1 hb with h | h
 ·exact ub_u8 10 _ (by omega) b h
 ·obtain ⟨x, h1, h2⟩ := List.mem_flatMap.1 h
  exact ub_u8 10 _ (hu x h1).1 b h2
/-- a proof whose numbers are not negative and whose lists are short -/
structure okP (s : S1) : Prop where
 c0 : 0 ≤ s.c0 ∧ s.c0 < 4611686018427387904
 c1 : 0 ≤ s.c1 ∧ s.c1 < 4611686018427387904
 c2 : 0 ≤ s.c2 ∧ s.c2 < 4611686018427387904
 c3 : isU64 s.c3
 c4 : s.c4.length ≤ 12 ∧ ∀ x, x ∈ s.c4 → isU64 x
 c5 : s.c5.length ≤ 12 ∧ ∀ x, x ∈ s.c5 → isU64 x
 c6 : isU64 s.c6
theorem henc (n : Nat) (hn : 1000 ≤ n) (s : S1) (h : okP s) : ∃ r, g22 n s = some r ∧ g26 n s = some r ∧ r.length ≤ 800 ∧ U8s r := by
 have l0 := ub_len 10 (2 * s.c0)
 have l1 := ub_len 10 (2 * s.c1)
 have l2 := ub_len 10 (2 * s.c2)
 have l3 := ub_len 10 s.c3
 have l4 := el_len s.c4 (by have := h.c4.1; omega)
 have l5 := el_len s.c5 (by have := h.c5.1; omega)
 have l6 := ub_len 10 s.c6
 refine ⟨ub 10 (2 * s.c0) ++ ub 10 (2 * s.c1) ++ ub 10 (2 * s.c2) ++ ub 10 s.c3 ++ el s.c4 ++ el s.c5 ++ ub 10 s.c6, ?_, ?_, ?_, ?_⟩
 ·unfold g22
  rw [g36_ub n hn _ h.c0.1 h.c0.2 [] (by simp)]
  simp only [Option.bind_some, List.nil_append]
  rw [g36_ub n hn _ h.c1.1 h.c1.2 _ (by omega)]
  simp only [Option.bind_some]
  rw [g36_ub n hn _ h.c2.1 h.c2.2 _ (by simp; omega)]
  simp only [Option.bind_some]
  rw [g37_ub n hn _ h.c3 _ (by simp; omega)]
  simp only [Option.bind_some]
  rw [g38_ok n hn _ (by have := h.c4.1; omega) h.c4.2 _ (by simp; omega)]
  simp only [Option.bind_some]
  rw [g38_ok n hn _ (by have := h.c5.1; omega) h.c5.2 _ (by simp; omega)]
  simp only [Option.bind_some]
  rw [g37_ub n hn _ h.c6 _ (by simp; omega)]
  simp only [Option.bind_some]
  unfold g39 g55
  rw [if_pos (by simp; omega)]
  rfl
 ·unfold g26
  rw [g42_ub n hn _ h.c0.1 h.c0.2, g42_ub n hn _ h.c1.1 h.c1.2, g42_ub n hn _ h.c2.1 h.c2.2, g43_ub n hn _ h.c3, g44_ok n hn _ (by have := h.c4.1; omega) h.c4.2, g44_ok n hn _ (by have := h.c5.1; omega) h.c5.2, g43_ub n hn _ h.c6]
  simp only [Option.bind_some, List.length_append]
  rw [if_pos (by omega), if_pos (by omega), if_pos (by omega), if_pos (by omega), if_pos (by omega), if_pos (by omega)]
 ·simp only [List.length_append]; omega
 ·intro b hb
  simp only [List.mem_append] at hb
  rcases hb with (((((hb | hb) | hb) | hb) | hb) | hb) | hb
  ·exact ub_u8 10 _ (by have := h.c0.1; omega) b hb
  ·exact ub_u8 10 _ (by have := h.c1.1; omega) b hb
  ·exact ub_u8 10 _ (by have := h.c2.1; omega) b hb
  ·exact ub_u8 10 _ h.c3.1 b hb
  ·exact el_u8 _ h.c4.2 b hb
  ·exact el_u8 _ h.c5.2 b hb
  ·exact ub_u8 10 _ h.c6.1 b hb
theorem l12_39 (n : Nat) (hn : 1000 ≤ n) (ps : List S1) (hl : ps.length ≤ 900) (hp : ∀ s, s ∈ ps → okP s) : ∀ (k i : Nat) (h : Int), ps.length - i < k → ∃ r, l12_0 n ps k h (i : Int) = some r ∧ l13_0 n ps k h (i : Int) = some r
 | 0, _, _, h => by omega
 | k + 1, i, h, hk => by
  unfold l12_0 l13_0
  by_cases c : i < ps.length
  ·obtain ⟨b, e1, e2, e3, e4⟩ := henc n hn (rd ps (i : Int)) (hp _ (mem_rd ps i c))
   obtain ⟨v, f1, f2⟩ := hbytes n hn [112, 114, 111, 111, 102] b (by simp) e3 e4
   obtain ⟨w, g1, g2⟩ := hpair n hn h v
   obtain ⟨r, h1, h2⟩ := l12_39 n hn ps hl hp k (i + 1) w (by omega)
   refine ⟨r, ?_, ?_⟩
   ·rw [if_pos (by omega), if_pos (by omega), etaS1, e1]
    simp only [Option.bind_some]
    rw [f1]; simp only [Option.bind_some]
    rw [g1]; simp only [Option.bind_some]
    rw [wsucc i (by omega), h1]
   ·rw [if_pos (by omega), if_pos (by omega), etaS1, e2]
    simp only [Option.bind_some]
    rw [f2]; simp only [Option.bind_some]
    rw [g2]; simp only [Option.bind_some]
    rw [wsucc i (by omega), h2]
  ·rw [if_neg (by omega), if_neg (by omega)]
   exact ⟨h, rfl, rfl⟩
/-- Sum of proofs: the program's is the reference's -/
theorem psum (n : Nat) (hn : 1000 ≤ n) (ps : List S1) (hl : ps.length ≤ 900) (hp : ∀ s, s ∈ ps → okP s) : ∃ r, g12 n ps = some r ∧ g13 n ps = some r := by
 obtain ⟨v, h1, h2⟩ := hsum n hn [112, 114, 111, 111, 102, 115] [(ps.length : Int)] (by simp) (by simp)
 obtain ⟨r, f1, f2⟩ := l12_39 n hn ps hl hp n 0 v (by omega)
 refine ⟨r, ?_, ?_⟩
 ·unfold g12; rw [h1]; exact f1
 ·unfold g13; rw [h2]; exact f2
end Go.Av
end
