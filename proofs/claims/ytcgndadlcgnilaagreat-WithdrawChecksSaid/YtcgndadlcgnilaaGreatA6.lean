/- the layer over the model, part 6 -/
import Derived.Test.YtcgndadlcgnilaaGreatA5
set_option autoImplicit false
set_option linter.unusedSimpArgs false
set_option linter.unusedVariables false
set_option linter.unnecessarySimpa false
section
set_option linter.unusedSimpArgs false
set_option linter.unusedVariables false
namespace Go.Av
open Go.RowKit

theorem eq_bool {P : Program} {w : World} {t : TypeId} (hu : P.underlying t = some .bool) (a b : Bool) : (Op.equal t (.bool a) (.bool b)).run P w = .ok (a == b) w := by
 show (Op.equalIn (9999 + 1) t (.bool a) (.bool b)).run P w = _
 rw [Op.equalIn]; simp [run_und hu]
theorem eq_nilp {P : Program} {w : World} {t e : TypeId} (hu : P.underlying t = some (.pointer e)) (q : Option Addr) : (Op.equal t (.pointer none) (.pointer q)).run P w = .ok q.isNone w := by
 show (Op.equalIn (9999 + 1) t (.pointer none) (.pointer q)).run P w = _
 rw [Op.equalIn]; simp [run_und hu]
theorem eq_ptrnil {P : Program} {w : World} {t e : TypeId} (hu : P.underlying t = some (.pointer e)) (q : Addr) : (Op.equal t (.pointer (some q)) (.pointer none)).run P w = .ok false w := by
 show (Op.equalIn (9999 + 1) t (.pointer (some q)) (.pointer none)).run P w = _
 rw [Op.equalIn]; simp [run_und hu]
theorem eq_nilfn {P : Program} {w : World} {t : TypeId} {x y : Array TypeId} {z : Bool} (hu : P.underlying t = some (.func x y z)) : (Op.equal t .nilFunc .nilFunc).run P w = .ok true w := by
 show (Op.equalIn (9999 + 1) t .nilFunc .nilFunc).run P w = _
 rw [Op.equalIn]; simp [run_und hu]
theorem eq_fnnil {P : Program} {w : World} {t : TypeId} {x y : Array TypeId} {z : Bool} (hu : P.underlying t = some (.func x y z)) (f : Fn) (p q : Array Value) : (Op.equal t (.func f p q) .nilFunc).run P w = .ok false w := by
 show (Op.equalIn (9999 + 1) t (.func f p q) .nilFunc).run P w = _
 rw [Op.equalIn]; simp [run_und hu]

section
variable {P : Program} {B : Nat} {w0 : World} {a : List AV} {H : AHeap} {μ : Nat → Nat × Nat} {Z : Nat → Nat → Prop} {w : World} {n : Nat}
variable {x y i v : AV} {cx cy ci : Value} {t : TypeId}

theorem binA_run {op : BinOp} {ox oy : Operand} (h : binA P op t x y = some v) (hx : VR μ Z w n x cx) (hy : VR μ Z w n y cy) :
  ∃ cv, (do eqGuard op t ox oy cx cy; binOp op t cx cy : Sem Value).run P w = .ok cv w ∧ VR μ Z w n v cv := by
 have key : (∀ c, cx ≠ .agg c) ∧ cx ≠ .nilIface → (∃ cv, (binOp op t cx cy).run P w = .ok cv w ∧ VR μ Z w n v cv) → ∃ cv, (do eqGuard op t ox oy cx cy; binOp op t cx cy : Sem Value).run P w = .ok cv w ∧ VR μ Z w n v cv := by
  rintro hg ⟨cv, h1, h2⟩
  exact ⟨cv, by simp [eqGuard_ok hg, h1], h2⟩
 unfold binA at h
 split at h
 ·cases hx; cases hy
  refine key (by simp) ?_
  rename_i k p k' q
  split at h
  ·simp only [shlI] at h
   split at h
   ·cases h
   ·cases h; rename_i hq; exact ⟨_, by simp [binOp, Op.shift, hq], .int _ _⟩
  ·simp only [shrI] at h
   split at h
   ·cases h
   ·cases h; rename_i hq; exact ⟨_, by simp [binOp, Op.shift, hq], .int _ _⟩
  ·split at h
   ·rename_i hk; subst hk; exact binI_run h (by assumption) (by assumption)
   ·cases h
 ·cases hx; cases hy
  exact key (by simp) (binS_run h)
 ·cases hx; cases hy
  refine key (by simp) ?_
  split at h
  ·rename_i hk
   obtain ⟨ti, h1, h2⟩ := isK_spec hk
   have hu : P.underlying t = some .bool := kind_bool h1 (by revert h2; cases ti.kind <;> simp [isBoolK])
   split at h
   ·cases h; exact ⟨_, by simp [binOp, eq_bool hu], .bool _⟩
   ·cases h; exact ⟨_, by simp [binOp, eq_bool hu], .bool _⟩
   ·cases h
  ·cases h
 ·cases hx; cases hy
  refine key (by simp) ?_
  split at h
  ·rename_i hk
   obtain ⟨ti, h1, h2⟩ := isK_spec hk
   obtain ⟨e, hu⟩ : ∃ e, P.underlying t = some (.pointer e) := kind_ptr h1 (by revert h2; cases ti.kind <;> simp [isPtrK])
   split at h
   ·cases h; exact ⟨_, by simp [binOp, eq_nilp hu], .bool _⟩
   ·cases h; exact ⟨_, by simp [binOp, eq_nilp hu], .bool _⟩
   ·cases h
  ·cases h
 ·cases hx; cases hy
  refine key (by simp) ?_
  split at h
  ·rename_i hk
   obtain ⟨ti, h1, h2⟩ := isK_spec hk
   obtain ⟨e, hu⟩ : ∃ e, P.underlying t = some (.pointer e) := kind_ptr h1 (by revert h2; cases ti.kind <;> simp [isPtrK])
   split at h
   ·cases h; exact ⟨_, by simp [binOp, eq_nilp hu], .bool _⟩
   ·cases h; exact ⟨_, by simp [binOp, eq_nilp hu], .bool _⟩
   ·cases h
  ·cases h
 ·cases hx; cases hy
  refine key (by simp) ?_
  split at h
  ·rename_i hk
   obtain ⟨ti, h1, h2⟩ := isK_spec hk
   obtain ⟨e, hu⟩ : ∃ e, P.underlying t = some (.pointer e) := kind_ptr h1 (by revert h2; cases ti.kind <;> simp [isPtrK])
   split at h
   ·cases h; exact ⟨_, by simp [binOp, eq_ptrnil hu], .bool _⟩
   ·cases h; exact ⟨_, by simp [binOp, eq_ptrnil hu], .bool _⟩
   ·cases h
  ·cases h
 ·cases hx; cases hy
  refine key (by simp) ?_
  split at h
  ·rename_i hk
   obtain ⟨ti, h1, h2⟩ := isK_spec hk
   obtain ⟨p, q, r, hu⟩ := kind_func h1 (by revert h2; cases ti.kind <;> simp [isFuncK])
   split at h
   ·cases h; exact ⟨_, by simp [binOp, eq_nilfn hu], .bool _⟩
   ·cases h; exact ⟨_, by simp [binOp, eq_nilfn hu], .bool _⟩
   ·cases h
  ·cases h
 ·cases hy
  have hf : ∃ g p q, cx = .func g p q := by cases hx <;> exact ⟨_, _, _, rfl⟩
  obtain ⟨g, p, q, rfl⟩ := hf
  refine key (by simp) ?_
  split at h
  ·rename_i hk
   obtain ⟨ti, h1, h2⟩ := isK_spec hk
   obtain ⟨p, q, r, hu⟩ := kind_func h1 (by revert h2; cases ti.kind <;> simp [isFuncK])
   split at h
   ·cases h; exact ⟨_, by simp [binOp, eq_fnnil hu], .bool _⟩
   ·cases h; exact ⟨_, by simp [binOp, eq_fnnil hu], .bool _⟩
   ·cases h
  ·cases h
 ·cases h

theorem unA_run {op : UnOp} (h : unA op x = some v) (hx : VR μ Z w n x cx) : ∃ cv, (Op.unary op cx).run P w = .ok cv w ∧ VR μ Z w n v cv := by
 unfold unA at h
 split at h
 ·cases h; cases hx; exact ⟨_, by simp [Op.unary, Op.intArith], .int _ _⟩
 ·cases h; cases hx; exact ⟨_, by simp [Op.unary, Op.intBits, bitsA], .int _ _⟩
 ·cases h; cases hx; exact ⟨_, by simp [Op.unary], .bool _⟩
 ·cases h

theorem pickA_run {c : AV} {cc : Value} (h : pickA c x y = some v) (hc : VR μ Z w n c cc) (hx : VR μ Z w n x cx) (hy : VR μ Z w n y cy) :
  ∃ cv, (do pure (Next.value (if ← asBool cc then cx else cy)) : Sem Next).run P w = .ok (.value cv) w ∧ VR μ Z w n v cv := by
 unfold pickA at h
 split at h
 ·rename_i b
  cases h; cases hc
  cases b
  ·exact ⟨cy, by simp [asBool], hy⟩
  ·exact ⟨cx, by simp [asBool], hx⟩
 ·cases h

theorem allU8_spec : ∀ {l : List AV} {ns : List Int}, allU8 l = some ns → l = ns.map (AV.int .u8)
 | [], ns, h => by simp [allU8] at h; subst h; rfl
 | e :: l, ns, h => by
  unfold allU8 at h
  split at h
  ·contradiction
  ·rename_i heq
   cases heq
   rename_i m
   cases hl : allU8 l with
   | none => rw [hl] at h; cases h
   | some ms =>
    rw [hl] at h
    simp at h
    subst h
    rw [allU8_spec hl]
    rfl
  ·cases h

theorem flat_ints (k : IntKind) (l : List Int) : flat (l.map (AV.int k)) = l.map (AV.int k) := by
 induction l with
 | nil => rfl
 | cons x l ih => rw [List.map_cons, flat_cons, ih]; rfl

theorem convA_run {s d : TypeId} (h : convA P s d x = some v) (hx : VR μ Z w n x cx) : ∃ cv, (convert s d cx).run P w = .ok cv w ∧ VR μ Z w n v cv := by
 unfold convA at h
 split at h
 ·rename_i i j hi hj
  obtain ⟨infi, di, _, hui, hki, _⟩ := tyA_spec hi
  split at h
  ·rename_i k k' m hk
   cases h; cases hx
   have hu := kind_int hj hk
   exact ⟨_, by cases di <;> simp [convert, run_und hui, run_und hu, Conv.intToInt], .int _ _⟩
  ·rename_i s' hk
   cases h; cases hx
   have hu := kind_str hj hk
   exact ⟨_, by cases di <;> simp [convert, run_und hui, run_und hu], .str _⟩
  ·rename_i sz es tl hk
   split at h
   ·rename_i e hke
    split at h
    ·rename_i hb
     simp only [Bool.and_eq_true, Bool.or_eq_true, beq_iff_eq, List.isEmpty_iff] at hb
     obtain ⟨te, h1, h2⟩ := isK_spec hb.1
     have hue : P.underlying e = some (.int .u8) := by
      revert h2
      split
      ·rename_i hk8; intro _; exact kind_int h1 hk8
      ·intro h; cases h
     have hus := kind_slice hi hke
     have hud := kind_str hj hk
     cases hl : allU8 es with
     | none => rw [hl] at h; cases h
     | some ns =>
      rw [hl] at h
      simp only [Option.map_some, Option.some.injEq] at h
      subst h
      have hes := allU8_spec hl
      cases hx with
      | dl0 _ _ a cap h0 ht =>
       obtain rfl : ns = [] := by cases ns with | nil => rfl | cons => cases hes
       refine ⟨.string ⟨#[]⟩, ?_, .str []⟩
       cases a with
       | none => exact run_convert_bytes_nil w s e hus hue _ _ d hud
       | some b =>
        rw [run_convert_bytes_string w s d e _ _ _ hus hue hud, run_bytesToString w b 0 cap [] (by simp [loadCells, loadCellsFrom])]
        rfl
      | dl _ _ _ c o cap f hs hc h1' h2' h3' h5 ht =>
       subst hes
       rw [flat_ints] at h1' h3'
       refine ⟨.string (strOfNums ns), ?_, .str _⟩
       refine run_convert_bytes_arg w s e hus hue c o _ cap ns (by simp) (fun i hi => ?_) d hud
       have hi' : i < ns.length := by simpa using hi
       have h4 := h1' i (.int .u8 ns[i]) (by simp [hi'])
       have h6 := h3' i (.int .u8 ns[i]) (by simp [hi'])
       rw [h4]
       generalize f i = z at h6
       cases h6
       simp [List.getD, hi']
    ·cases h
   ·cases h
  ·cases h
 ·cases h
end
end Go.Av
end
