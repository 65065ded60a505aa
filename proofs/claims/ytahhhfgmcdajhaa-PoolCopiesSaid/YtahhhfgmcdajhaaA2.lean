/- the layer over the model, part 2 -/
import Derived.Test.YtahhhfgmcdajhaaA1
set_option autoImplicit false
set_option linter.unusedSimpArgs false
set_option linter.unusedVariables false
set_option linter.unnecessarySimpa false
section
set_option linter.unusedSimpArgs false
set_option linter.unusedVariables false
namespace Go.Av
open Go.RowKit

theorem eq_bool {P : Program} {w : World} {t : TypeId} (hu : P.underlying t = some .bool) (a b : Bool) : (Op.equal t (.bool a) (.bool b)).run P w = .ok (a == b) w := by
 show (Op.equalIn (9999 + 1) t (.bool a) (.bool b)).run P w = _
 rw [Op.equalIn]; simp [run_und hu]
theorem eq_nilp {P : Program} {w : World} {t e : TypeId} (hu : P.underlying t = some (.pointer e)) (q : Option Addr) : (Op.equal t (.pointer none) (.pointer q)).run P w = .ok q.isNone w := by
 show (Op.equalIn (9999 + 1) t (.pointer none) (.pointer q)).run P w = _
 rw [Op.equalIn]; simp [run_und hu]
theorem eq_ptrnil {P : Program} {w : World} {t e : TypeId} (hu : P.underlying t = some (.pointer e)) (q : Addr) : (Op.equal t (.pointer (some q)) (.pointer none)).run P w = .ok false w := by
 show (Op.equalIn (9999 + 1) t (.pointer (some q)) (.pointer none)).run P w = _
 rw [Op.equalIn]; simp [run_und hu]
theorem eq_nilfn {P : Program} {w : World} {t : TypeId} {x y : Array TypeId} {z : Bool} (hu : P.underlying t = some (.func x y z)) : (Op.equal t .nilFunc .nilFunc).run P w = .ok true w := by
 show (Op.equalIn (9999 + 1) t .nilFunc .nilFunc).run P w = _
 rw [Op.equalIn]; simp [run_und hu]
theorem eq_fnnil {P : Program} {w : World} {t : TypeId} {x y : Array TypeId} {z : Bool} (hu : P.underlying t = some (.func x y z)) (f : Fn) (p q : Array Value) : (Op.equal t (.func f p q) .nilFunc).run P w = .ok false w := by
 show (Op.equalIn (9999 + 1) t (.func f p q) .nilFunc).run P w = _
 rw [Op.equalIn]; simp [run_und hu]

theorem isI64T_spec {P : Program} {t : TypeId} (h : isI64T P t = true) : P.underlying t = some (.int .i64) := by
 unfold isI64T at h
 split at h
 ·assumption
 ·cases h
section
variable {P : Program} {B : Nat} {w0 : World} {a : List AV} {H : AHeap} {μ : Nat → Nat × Nat} {Z : Nat → Nat → Prop} {w : World} {n : Nat}
theorem eqInt {t : TypeId} (hu : P.underlying t = some (.int .i64)) (d : Nat) (a b : Int) : (Op.equalIn (d + 1) t (.int .i64 a) (.int .i64 b)).run P w = .ok (a == b) w := by
 rw [Op.equalIn]; simp [run_und hu]
theorem partInt {t : TypeId} (hu : P.underlying t = some (.int .i64)) {cs : Array Value} {i : Nat} {v : Value} (h : cs[i]? = some v) : (part t cs i).run P w = .ok v w := by
 simp [part, isAgg, run_und hu, h]
theorem eq2 {t : TypeId} {f g : Field} (hu : P.underlying t = some (.struct #[f, g])) (hs : P.stoodInHeld t = false) (hf : f.name ≠ "_") (hg : g.name ≠ "_") (of : f.offset = 0) (og : g.offset = 1) (uf : P.underlying f.type = some (.int .i64)) (ug : P.underlying g.type = some (.int .i64)) (a b c d : Int) :
 (Op.equal t (.agg #[.int .i64 a, .int .i64 b]) (.agg #[.int .i64 c, .int .i64 d])).run P w = .ok (decide ([a, b] = [c, d])) w := by
 show (Op.equalIn (9998 + 1 + 1) t _ _).run P w = _
 rw [Op.equalIn]
 simp only [run_und hu, Sem.run_bind, Result.andThen_ok]
 by_cases h1 : a = c <;> by_cases h2 : b = d <;> simp [hs, hf, hg, of, og, partInt uf, partInt ug, eqInt uf, eqInt ug, h1, h2]
theorem eq3 {t : TypeId} {f g h : Field} (hu : P.underlying t = some (.struct #[f, g, h])) (hs : P.stoodInHeld t = false) (hf : f.name ≠ "_") (hg : g.name ≠ "_") (hh : h.name ≠ "_") (of : f.offset = 0) (og : g.offset = 1) (oh : h.offset = 2) (uf : P.underlying f.type = some (.int .i64)) (ug : P.underlying g.type = some (.int .i64)) (uh : P.underlying h.type = some (.int .i64)) (a b e c d k : Int) :
 (Op.equal t (.agg #[.int .i64 a, .int .i64 b, .int .i64 e]) (.agg #[.int .i64 c, .int .i64 d, .int .i64 k])).run P w = .ok (decide ([a, b, e] = [c, d, k])) w := by
 show (Op.equalIn (9998 + 1 + 1) t _ _).run P w = _
 rw [Op.equalIn]
 simp only [run_und hu, Sem.run_bind, Result.andThen_ok]
 by_cases h1 : a = c <;> by_cases h2 : b = d <;> by_cases h3 : e = k <;> simp [hs, hf, hg, hh, of, og, oh, partInt uf, partInt ug, partInt uh, eqInt uf, eqInt ug, eqInt uh, h1, h2, h3]
theorem ints_vr : ∀ {xs : List AV} {as : List Int} {vs : List Value}, intsA xs = some as → VRs μ Z w n xs vs.toArray → vs = as.map (Value.int .i64) ∧ xs.length = as.length := by
 intro xs
 induction xs with
 | nil => intro as vs h hv; cases h; have := hv.1; simp at this; exact ⟨by simpa using this.symm, rfl⟩
 | cons x xs ih =>
  intro as vs h hv
  cases vs with
  | nil => have := hv.1; simp at this
  | cons cv vs =>
   have hx : VR μ Z w n x cv := by
    obtain ⟨u, k1, k2⟩ := hv.2 0 x rfl
    simp at k1; subst k1; exact k2
   have hr : VRs μ Z w n xs vs.toArray := ⟨by have := hv.1; simpa using this, fun j v hj => by
    obtain ⟨u, k1, k2⟩ := hv.2 (j + 1) v (by simpa using hj)
    exact ⟨u, by simpa using k1, k2⟩⟩
   cases x <;> try (simp [intsA] at h; done)
   rename_i k m
   cases k <;> try (simp [intsA] at h; done)
   simp only [intsA, Option.map_eq_some_iff] at h
   obtain ⟨l, h1, rfl⟩ := h
   obtain ⟨e1, e2⟩ := ih h1 hr
   cases hx
   exact ⟨by rw [e1]; rfl, by simp [e2]⟩
theorem eqA_run {t : TypeId} {xs ys : List AV} {vs us : Array Value} {op : BinOp} {ox oy : Operand} {v : AV} (hT : eqTyB P t xs.length = true) (h : eqA op (intsA xs) (intsA ys) = some v) (hx : VRs μ Z w n xs vs) (hy : VRs μ Z w n ys us) :
  ∃ cv, (do eqGuard op t ox oy (.agg vs) (.agg us); binOp op t (.agg vs) (.agg us) : Sem Value).run P w = .ok cv w ∧ VR μ Z w n v cv := by
 obtain ⟨vs⟩ := vs
 obtain ⟨us⟩ := us
 unfold eqA at h
 split at h <;> try (cases h; done)
 rename_i as bs ha hb
 split at h <;> try (cases h; done)
 rename_i hl
 obtain ⟨rfl, l1⟩ := ints_vr ha hx
 obtain ⟨rfl, l2⟩ := ints_vr hb hy
 simp only [eqTyB, Bool.and_eq_true, Bool.not_eq_true'] at hT
 obtain ⟨⟨hT, hs⟩, hgd⟩ := hT
 have key : ∀ r, (Op.equal t (.agg (as.map (Value.int .i64)).toArray) (.agg (bs.map (Value.int .i64)).toArray)).run P w = .ok r w → r = decide (as = bs) → ∃ cv, (do eqGuard op t ox oy (.agg (as.map (Value.int .i64)).toArray) (.agg (bs.map (Value.int .i64)).toArray); binOp op t (.agg (as.map (Value.int .i64)).toArray) (.agg (bs.map (Value.int .i64)).toArray) : Sem Value).run P w = .ok cv w ∧ VR μ Z w n v cv := by
  rintro r hr rfl
  split at h
  ·cases h; exact ⟨_, by simp [eqGuard, hgd, binOp, hr], .bool _⟩
  ·cases h; exact ⟨_, by simp [eqGuard, hgd, binOp, hr], .bool _⟩
  ·cases h
 split at hT <;> try (cases hT; done)
 rename_i fs hu
 obtain ⟨fs⟩ := fs
 split at hT <;> try (cases hT; done)
 ·rename_i f g e
  simp only at e
  subst e
  simp only [Bool.and_eq_true, beq_iff_eq, eqF, bne_iff_ne] at hT
  obtain ⟨⟨hn, ⟨n1, o1⟩, u1⟩, ⟨n2, o2⟩, u2⟩ := hT
  match as, bs, (by omega : as.length = 2), hl with
  | [a, b], [c, d], _, _ => exact key _ (eq2 hu hs n1 n2 o1 o2 (isI64T_spec u1) (isI64T_spec u2) a b c d) rfl
 ·rename_i f g k e
  simp only at e
  subst e
  simp only [Bool.and_eq_true, beq_iff_eq, eqF, bne_iff_ne] at hT
  obtain ⟨⟨⟨hn, ⟨n1, o1⟩, u1⟩, ⟨n2, o2⟩, u2⟩, ⟨n3, o3⟩, u3⟩ := hT
  match as, bs, (by omega : as.length = 3), hl with
  | [a, b, e], [c, d, k], _, _ => exact key _ (eq3 hu hs n1 n2 n3 o1 o2 o3 (isI64T_spec u1) (isI64T_spec u2) (isI64T_spec u3) a b e c d k) rfl
variable {x y i v : AV} {cx cy ci : Value} {t : TypeId}

theorem binA_run {op : BinOp} {ox oy : Operand} (h : binA P op t x y = some v) (hx : VR μ Z w n x cx) (hy : VR μ Z w n y cy) :
  ∃ cv, (do eqGuard op t ox oy cx cy; binOp op t cx cy : Sem Value).run P w = .ok cv w ∧ VR μ Z w n v cv := by
 have key : (∀ c, cx ≠ .agg c) ∧ cx ≠ .nilIface → (∃ cv, (binOp op t cx cy).run P w = .ok cv w ∧ VR μ Z w n v cv) → ∃ cv, (do eqGuard op t ox oy cx cy; binOp op t cx cy : Sem Value).run P w = .ok cv w ∧ VR μ Z w n v cv := by
  rintro hg ⟨cv, h1, h2⟩
  exact ⟨cv, by simp [eqGuard_ok hg, h1], h2⟩
 unfold binA at h
 split at h
 ·cases hx; cases hy
  refine key (by simp) ?_
  rename_i k p k' q
  split at h
  ·simp only [shlI] at h
   split at h
   ·cases h
   ·cases h; rename_i hq; exact ⟨_, by simp [binOp, Op.shift, hq], .int _ _⟩
  ·simp only [shrI] at h
   split at h
   ·cases h
   ·cases h; rename_i hq; exact ⟨_, by simp [binOp, Op.shift, hq], .int _ _⟩
  ·split at h
   ·rename_i hk; subst hk; exact binI_run h (by assumption) (by assumption)
   ·cases h
 ·cases hx; cases hy
  exact key (by simp) (binS_run h)
 ·cases hx; cases hy
  refine key (by simp) ?_
  split at h
  ·rename_i hk
   obtain ⟨ti, h1, h2⟩ := isK_spec hk
   have hu : P.underlying t = some .bool := kind_bool h1 (by revert h2; cases ti.kind <;> simp [isBoolK])
   split at h
   ·cases h; exact ⟨_, by simp [binOp, eq_bool hu], .bool _⟩
   ·cases h; exact ⟨_, by simp [binOp, eq_bool hu], .bool _⟩
   ·cases h
  ·cases h
 ·cases hx; cases hy
  refine key (by simp) ?_
  split at h
  ·rename_i hk
   obtain ⟨ti, h1, h2⟩ := isK_spec hk
   obtain ⟨e, hu⟩ : ∃ e, P.underlying t = some (.pointer e) := kind_ptr h1 (by revert h2; cases ti.kind <;> simp [isPtrK])
   split at h
   ·cases h; exact ⟨_, by simp [binOp, eq_nilp hu], .bool _⟩
   ·cases h; exact ⟨_, by simp [binOp, eq_nilp hu], .bool _⟩
   ·cases h
  ·cases h
 ·cases hx; cases hy
  refine key (by simp) ?_
  split at h
  ·rename_i hk
   obtain ⟨ti, h1, h2⟩ := isK_spec hk
   obtain ⟨e, hu⟩ : ∃ e, P.underlying t = some (.pointer e) := kind_ptr h1 (by revert h2; cases ti.kind <;> simp [isPtrK])
   split at h
   ·cases h; exact ⟨_, by simp [binOp, eq_nilp hu], .bool _⟩
   ·cases h; exact ⟨_, by simp [binOp, eq_nilp hu], .bool _⟩
   ·cases h
  ·cases h
 ·cases hx; cases hy
  refine key (by simp) ?_
  split at h
  ·rename_i hk
   obtain ⟨ti, h1, h2⟩ := isK_spec hk
   obtain ⟨e, hu⟩ : ∃ e, P.underlying t = some (.pointer e) := kind_ptr h1 (by revert h2; cases ti.kind <;> simp [isPtrK])
   split at h
   ·cases h; exact ⟨_, by simp [binOp, eq_ptrnil hu], .bool _⟩
   ·cases h; exact ⟨_, by simp [binOp, eq_ptrnil hu], .bool _⟩
   ·cases h
  ·cases h
 ·cases hx; cases hy
  refine key (by simp) ?_
  split at h
  ·rename_i hk
   obtain ⟨ti, h1, h2⟩ := isK_spec hk
   obtain ⟨p, q, r, hu⟩ := kind_func h1 (by revert h2; cases ti.kind <;> simp [isFuncK])
   split at h
   ·cases h; exact ⟨_, by simp [binOp, eq_nilfn hu], .bool _⟩
   ·cases h; exact ⟨_, by simp [binOp, eq_nilfn hu], .bool _⟩
   ·cases h
  ·cases h
 ·cases hy
  have hf : ∃ g p q, cx = .func g p q := by cases hx <;> exact ⟨_, _, _, rfl⟩
  obtain ⟨g, p, q, rfl⟩ := hf
  refine key (by simp) ?_
  split at h
  ·rename_i hk
   obtain ⟨ti, h1, h2⟩ := isK_spec hk
   obtain ⟨p, q, r, hu⟩ := kind_func h1 (by revert h2; cases ti.kind <;> simp [isFuncK])
   split at h
   ·cases h; exact ⟨_, by simp [binOp, eq_fnnil hu], .bool _⟩
   ·cases h; exact ⟨_, by simp [binOp, eq_fnnil hu], .bool _⟩
   ·cases h
  ·cases h
 ·split at h <;> try (cases h; done)
  rename_i xs ys hT
  cases hx with
  | agg _ vs hl f h1 h2 =>
   cases hy with
   | agg _ us hl' f' h1' h2' => exact eqA_run hT h ⟨hl, fun j v hj => ⟨_, h1 j v hj, h2 j v hj⟩⟩ ⟨hl', fun j v hj => ⟨_, h1' j v hj, h2' j v hj⟩⟩
 ·cases h

theorem unA_run {op : UnOp} (h : unA op x = some v) (hx : VR μ Z w n x cx) : ∃ cv, (Op.unary op cx).run P w = .ok cv w ∧ VR μ Z w n v cv := by
 unfold unA at h
 split at h
 ·cases h; cases hx; exact ⟨_, by simp [Op.unary, Op.intArith], .int _ _⟩
 ·cases h; cases hx; exact ⟨_, by simp [Op.unary, Op.intBits, bitsA], .int _ _⟩
 ·cases h; cases hx; exact ⟨_, by simp [Op.unary], .bool _⟩
 ·cases h

theorem pickA_run {c : AV} {cc : Value} (h : pickA c x y = some v) (hc : VR μ Z w n c cc) (hx : VR μ Z w n x cx) (hy : VR μ Z w n y cy) :
  ∃ cv, (do pure (Next.value (if ← asBool cc then cx else cy)) : Sem Next).run P w = .ok (.value cv) w ∧ VR μ Z w n v cv := by
 unfold pickA at h
 split at h
 ·rename_i b
  cases h; cases hc
  cases b
  ·exact ⟨cy, by simp [asBool], hy⟩
  ·exact ⟨cx, by simp [asBool], hx⟩
 ·cases h

theorem allU8_spec : ∀ {l : List AV} {ns : List Int}, allU8 l = some ns → l = ns.map (AV.int .u8)
 | [], ns, h => by simp [allU8] at h; subst h; rfl
 | e :: l, ns, h => by
  unfold allU8 at h
  split at h
  ·contradiction
  ·rename_i heq
   cases heq
   rename_i m
   cases hl : allU8 l with
   | none => rw [hl] at h; cases h
   | some ms =>
    rw [hl] at h
    simp at h
    subst h
    rw [allU8_spec hl]
    rfl
  ·cases h

theorem flat_ints (k : IntKind) (l : List Int) : flat (l.map (AV.int k)) = l.map (AV.int k) := by
 induction l with
 | nil => rfl
 | cons x l ih => rw [List.map_cons, flat_cons, ih]; rfl

theorem convA_run {s d : TypeId} (h : convA P s d x = some v) (hx : VR μ Z w n x cx) : ∃ cv, (convert s d cx).run P w = .ok cv w ∧ VR μ Z w n v cv := by
 unfold convA at h
 split at h
 ·rename_i i j hi hj
  obtain ⟨infi, di, _, hui, hki, _⟩ := tyA_spec hi
  split at h
  ·rename_i k k' m hk
   cases h; cases hx
   have hu := kind_int hj hk
   exact ⟨_, by cases di <;> simp [convert, run_und hui, run_und hu, Conv.intToInt], .int _ _⟩
  ·rename_i s' hk
   cases h; cases hx
   have hu := kind_str hj hk
   exact ⟨_, by cases di <;> simp [convert, run_und hui, run_und hu], .str _⟩
  ·rename_i sz es tl hk
   split at h
   ·rename_i e hke
    split at h
    ·rename_i hb
     simp only [Bool.and_eq_true, Bool.or_eq_true, beq_iff_eq, List.isEmpty_iff] at hb
     obtain ⟨te, h1, h2⟩ := isK_spec hb.1
     have hue : P.underlying e = some (.int .u8) := by
      revert h2
      split
      ·rename_i hk8; intro _; exact kind_int h1 hk8
      ·intro h; cases h
     have hus := kind_slice hi hke
     have hud := kind_str hj hk
     cases hl : allU8 es with
     | none => rw [hl] at h; cases h
     | some ns =>
      rw [hl] at h
      simp only [Option.map_some, Option.some.injEq] at h
      subst h
      have hes := allU8_spec hl
      cases hx with
      | dl0 _ _ a cap h0 ht =>
       obtain rfl : ns = [] := by cases ns with | nil => rfl | cons => cases hes
       refine ⟨.string ⟨#[]⟩, ?_, .str []⟩
       cases a with
       | none => exact run_convert_bytes_nil w s e hus hue _ _ d hud
       | some b =>
        rw [run_convert_bytes_string w s d e _ _ _ hus hue hud, run_bytesToString w b 0 cap [] (by simp [loadCells, loadCellsFrom])]
        rfl
      | dl _ _ _ c o cap f hs hc h1' h2' h3' h5 ht =>
       subst hes
       rw [flat_ints] at h1' h3'
       refine ⟨.string (strOfNums ns), ?_, .str _⟩
       refine run_convert_bytes_arg w s e hus hue c o _ cap ns (by simp) (fun i hi => ?_) d hud
       have hi' : i < ns.length := by simpa using hi
       have h4 := h1' i (.int .u8 ns[i]) (by simp [hi'])
       have h6 := h3' i (.int .u8 ns[i]) (by simp [hi'])
       rw [h4]
       generalize f i = z at h6
       cases h6
       simp [List.getD, hi']
    ·cases h
   ·cases h
  ·cases h
 ·cases h
end
end Go.Av
end

section
set_option linter.unusedSimpArgs false
set_option linter.unusedVariables false
namespace Go.Av
open Go.RowKit

theorem run_getObjMap {P : Program} {w : World} {r : Nat} {es : Array MapEntry} {c : Nat} (h : w.heap[r]? = some (.map es c)) : (getObj r).run P w = .ok (.map es c) w := by
 simp only [getObj, Sem.run, h]
theorem run_setObjMap {P : Program} {w : World} {r : Nat} {es : Array MapEntry} {c : Nat} {o : Obj} (h : w.heap[r]? = some (.map es c)) : (setObj r o).run P w = .ok () { w with heap := w.heap.setIfInBounds r o } := by
 simp only [setObj, Sem.run, h]
section
variable {P : Program} {B : Nat} {w0 : World} {a : List AV} {H : AHeap} {μ : Nat → Nat × Nat} {Z : Nat → Nat → Prop} {w : World} {n : Nat}
variable {x y i v : AV} {cx cy ci : Value} {t : TypeId}

theorem plus_vr {k : Nat} (h : plus x k = some v) (hx : VR μ Z w n x cx) : ∃ c o, cx = .pointer (some ⟨c, o, none⟩) ∧ VR μ Z w n v (.pointer (some ⟨c, o + k, none⟩)) := by
 unfold plus at h
 split at h
 ·cases h; cases hx
  rename_i id o hid
  exact ⟨_, _, rfl, by rw [Nat.add_assoc]; exact .ptr id (o + k) hid⟩
 ·rename_i cs off
  cases h
  cases hx with
  | dp _ _ c o f h1 h2 h3 h5 => exact ⟨_, _, rfl, by rw [Nat.add_assoc]; exact .dp cs (off + k) c o f h1 h2 h3 h5⟩
 ·cases h

theorem fieldAddr_run {s : TypeId} {f : Nat} (h : fieldAddrA P s x f = some v) (hx : VR μ Z w n x cx) : ∃ cv, (Instr.fieldAt s cx f).run P w = .ok cv w ∧ VR μ Z w n v cv := by
 unfold fieldAddrA at h
 split at h
 ·rename_i ti hi
  split at h
  ·rename_i fs hk
   split at h
   ·rename_i off ft hf
    split at h
    ·rename_i j hj
     split at h
     ·cases h
     ·rename_i hz
      obtain ⟨gs, hu, hgs⟩ := kind_struct hi hk
      obtain ⟨c, o, rfl, hv⟩ := plus_vr h hx
      refine ⟨_, ?_, hv⟩
      have hg : ∃ g, gs[f]? = some g ∧ g.offset = off ∧ g.type = ft := by
       rw [← hgs] at hf
       simp only [List.getElem?_map, Array.getElem?_toList, Option.map_eq_some_iff, Prod.mk.injEq] at hf
       exact hf
      obtain ⟨g, hg1, hg2, hg3⟩ := hg
      subst hg2; subst hg3
      simp [Instr.fieldAt, run_und hu, hg1, Instr.sureAddr, fieldPlace, run_sizeOf' hj, hz, addr_add]
    ·cases h
   ·cases h
  ·cases h
 ·cases h

/-- A part of a struct or an array that lies in a slot. -/
theorem part_run {cs : List AV} {vs : Array Value} {off : Nat} (h : loadA P t (cs.drop off) = some v) (hc : VRs μ Z w n cs vs) :
  ∃ cv, (part t vs off).run P w = .ok cv w ∧ VR μ Z w n v cv := by
 unfold loadA at h
 split at h
 ·rename_i ti hi
  split at h
  ·rename_i hagg
   split at h
   ·rename_i hle
    cases h
    simp only [List.length_drop] at hle
    refine ⟨.agg (vs.extract off (off + ti.size)), by simp [part, run_isAgg' hi, hagg, run_sizeOf' hi], ?_⟩
    by_cases hs : ti.size = 0
    ·have e1 : List.take ti.size (List.drop off cs) = [] := by rw [hs]; rfl
     have e2 : vs.extract off (off + ti.size) = #[] := by simp [hs, Nat.min_le_left]
     rw [e1, e2]
     exact .agg [] #[] rfl (fun _ => default) (by simp) (by simp)
    ·have hsz := hc.1
     refine .agg _ _ (by simp; omega) (fun j => vs.getD (off + j) default) ?_ ?_
     ·intro j x hj
      have hlt : j < ti.size := by have := (List.getElem?_eq_some_iff.1 hj).1; simp at this; omega
      have hlt2 : off + j < vs.size := by omega
      simp [Array.getElem?_extract, hlt2, Array.getD]; omega
     ·intro j x hj
      rw [List.getElem?_take] at hj
      split at hj
      ·rw [List.getElem?_drop] at hj
       obtain ⟨u, h1, h2⟩ := hc.2 _ _ hj
       simp only [Array.getD_eq_getD_getElem?, h1]
       exact h2
      ·cases hj
   ·cases h
  ·rename_i hagg
   rw [List.head?_drop] at h
   obtain ⟨u, h1, h2⟩ := hc.2 off v h
   exact ⟨u, by simp [part, run_isAgg' hi, hagg, h1], h2⟩
 ·cases h

theorem VR.agg_inv {cs : List AV} (h : VR μ Z w n (.agg cs) cx) : ∃ vs, cx = .agg vs ∧ VRs μ Z w n cs vs := by
 cases h with
 | agg cs vs hl f h1 h2 => exact ⟨vs, rfl, hl, fun j v hj => ⟨f j, h1 j v hj, h2 j v hj⟩⟩

theorem VRs.skolem {cs : List AV} {vs : Array Value} (h : VRs μ Z w n cs vs) : ∃ f : Nat → Value, (∀ j v, cs[j]? = some v → vs[j]? = some (f j)) ∧ ∀ j v, cs[j]? = some v → VR μ Z w n v (f j) := by
 refine ⟨fun j => vs.getD j default, fun j v hj => ?_, fun j v hj => ?_⟩
 ·obtain ⟨u, h1, h2⟩ := h.2 j v hj
  simp [Array.getD_eq_getD_getElem?, h1]
 ·obtain ⟨u, h1, h2⟩ := h.2 j v hj
  simp only [Array.getD_eq_getD_getElem?, h1]
  exact h2
theorem VRs.agg {cs : List AV} {vs : Array Value} (h : VRs μ Z w n cs vs) : VR μ Z w n (.agg cs) (.agg vs) := by
 obtain ⟨f, h1, h2⟩ := h.skolem
 exact .agg cs vs h.1 f h1 h2
theorem VRs.tup {cs : List AV} {vs : Array Value} (h : VRs μ Z w n cs vs) : VR μ Z w n (.tup cs) (.tuple vs) := by
 obtain ⟨f, h1, h2⟩ := h.skolem
 exact .tup cs vs h.1 f h1 h2

theorem field_run {f : Nat} (h : fieldA P t x f = some v) (hx : VR μ Z w n x cx) : ∃ cv, (Instr.field t cx f).run P w = .ok cv w ∧ VR μ Z w n v cv := by
 unfold fieldA at h
 split at h
 ·rename_i ti hi
  split at h
  ·rename_i fs cs hk
   split at h
   ·rename_i off ft hf
    obtain ⟨gs, hu, hgs⟩ := kind_struct hi hk
    obtain ⟨vs, rfl, hc⟩ := hx.agg_inv
    obtain ⟨cv, h1, h2⟩ := part_run (P := P) h hc
    refine ⟨cv, ?_, h2⟩
    have hg : ∃ g, gs[f]? = some g ∧ g.offset = off ∧ g.type = ft := by
     rw [← hgs] at hf
     simp only [List.getElem?_map, Array.getElem?_toList, Option.map_eq_some_iff, Prod.mk.injEq] at hf
     exact hf
    obtain ⟨g, hg1, hg2, hg3⟩ := hg
    subst hg2; subst hg3
    simp [Instr.field, run_und hu, hg1, asAgg, h1]
   ·cases h
  ·cases h
 ·cases h

theorem indexAddr_run (h : indexAddrA P t x i = some v) (hx : VR μ Z w n x cx) (hi : VR μ Z w n i ci) : ∃ cv, (Instr.indexAt t cx ci).run P w = .ok cv w ∧ VR μ Z w n v cv := by
 unfold indexAddrA at h
 split at h
 ·rename_i ti k m hti
  cases hi
  split at h
  ·rename_i e hk
   have hu := kind_slice hti hk
   split at h
   ·rename_i te hte
    split at h
    ·rename_i sz es tl
     split at h
     ·rename_i hc
      obtain ⟨h0, hlt, hsz⟩ := hc
      cases h
      cases hx with
      | dl0 => simp at hlt; omega
      | dl _ _ _ c o cap f hs hc h1 h2 h3 h5 ht =>
       have hnat : m.toNat < es.length := by omega
       refine ⟨.pointer (some ⟨c, o + m.toNat * sz + 0, none⟩), ?_, ?_⟩
       ·simp [Instr.indexAt, asIntOf, run_und hu, h0, hlt, run_sizeOf' hte, addr_add, hsz]
       ·have hcl : ∀ j, j < (es.getD m.toNat .undef).cells.length → j < sz := by
         intro j hj
         rw [List.getD_eq_getElem?_getD, List.getElem?_eq_getElem hnat] at hj
         rw [← hs _ (List.getElem_mem hnat)]; exact hj
        have hfl := flat_length hs
        have hcl2 : ∀ j, j < sz → m.toNat * sz + j < (flat es).length := by
         intro j hj
         rw [hfl]
         have : (m.toNat + 1) * sz ≤ es.length * sz := Nat.mul_le_mul_right _ hnat
         rw [Nat.add_mul] at this; omega
        refine .dp _ 0 c (o + m.toNat * sz) (fun j => f (m.toNat * sz + j)) ?_ ?_ ?_ ?_
        ·intro j z hj
         have hj' := (List.getElem?_eq_some_iff.1 hj).1
         rw [← flat_get hs hnat (hcl j hj')] at hj
         rw [Nat.add_assoc]; exact h1 _ _ hj
        ·intro j hj
         rw [Nat.add_assoc]; exact h2 _ (hcl2 j (hcl j hj))
        ·intro j z hj
         have hj' := (List.getElem?_eq_some_iff.1 hj).1
         rw [← flat_get hs hnat (hcl j hj')] at hj
         exact h3 _ _ hj
        ·intro j hj
         exact h5 _ (hcl2 j (hcl j hj))
     ·cases h
    ·rename_i sz id off len
     split at h
     ·rename_i hc
      obtain ⟨h0, hlt, hsz⟩ := hc
      cases h
      cases hx
      refine ⟨_, by simp [Instr.indexAt, asIntOf, run_und hu, h0, hlt, run_sizeOf' hte, addr_add, hsz]; rfl, ?_⟩
      rw [Nat.add_assoc, ← hsz]
      exact .ptr id _ (by assumption)
     ·cases h
    ·cases h
   ·cases h
  ·rename_i m' e hk
   have hu := kind_array hti hk
   split at h
   ·rename_i te hte
    split at h
    ·rename_i hc
     obtain ⟨h0, hlt⟩ := hc
     obtain ⟨c, o, rfl, hv⟩ := plus_vr h hx
     exact ⟨_, by simp [Instr.indexAt, asIntOf, run_und hu, Instr.sureAddr, h0, hlt, run_sizeOf' hte, addr_add], hv⟩
    ·cases h
   ·cases h
  ·cases h
 ·cases h

theorem index_run (h : indexA P t x i = some v) (hx : VR μ Z w n x cx) (hi : VR μ Z w n i ci) : ∃ cv, (Instr.index t cx ci).run P w = .ok cv w ∧ VR μ Z w n v cv := by
 unfold indexA at h
 split at h
 ·rename_i ti k m hti
  cases hi
  split at h
  ·rename_i s hk
   have hu := kind_str hti hk
   split at h
   ·rename_i hc
    obtain ⟨h0, hlt⟩ := hc
    cases h; cases hx
    have hnat : m.toNat < s.length := by omega
    refine ⟨_, ?_, .int _ _⟩
    have hb : (⟨s.toArray⟩ : ByteArray)[m.toNat]? = some s[m.toNat] := by
     rw [ByteArray.getElem?_lt' _ _ (by simpa [ByteArray.size] using hnat)]
     rfl
    simp [Instr.index, asIntOf, run_und hu, h0, hb, List.getD, hnat]
   ·cases h
  ·rename_i m' e cs hk
   have hu := kind_array hti hk
   split at h
   ·rename_i te hte
    split at h
    ·rename_i hc
     obtain ⟨h0, hlt⟩ := hc
     obtain ⟨vs, rfl, hcs⟩ := hx.agg_inv
     obtain ⟨cv, h1, h2⟩ := part_run (P := P) h hcs
     exact ⟨cv, by simp [Instr.index, asIntOf, run_und hu, h0, hlt, run_sizeOf' hte, h1], h2⟩
    ·cases h
   ·cases h
  ·cases h
 ·cases h

theorem extract_run {k : Nat} (h : extractA x k = some v) (hx : VR μ Z w n x cx) : ∃ cv, (Instr.extract cx k).run P w = .ok cv w ∧ VR μ Z w n v cv := by
 unfold extractA at h
 split at h
 ·cases hx with
  | tup cs vs hl f h1 h2 => exact ⟨f k, by simp [Instr.extract, h1 k v h], h2 k v h⟩
 ·cases h

theorem len_run (h : lenA P H t x = some v) (hR : R B w0 μ Z H w) (hx : VR μ Z w H.length x cx) : ∃ cv, (Builtin.len_ #[t] 0 #[cx]).run P w = .ok cv w ∧ VR μ Z w H.length v cv := by
 unfold lenA at h
 split at h
 ·rename_i ti hi
  split at h
  ·rename_i s hk
   have hu := kind_str hi hk
   cases h; cases hx
   exact ⟨_, by simp [Builtin.len_, run_und hu, goInt]; rfl, .int _ _⟩
  ·rename_i e sz es tl hk
   have hu := kind_slice hi hk
   cases h
   cases hx with
   | dl0 => exact ⟨_, by simp [Builtin.len_, run_und hu, goInt], .int _ _⟩
   | dl => exact ⟨_, by simp [Builtin.len_, run_und hu, goInt], .int _ _⟩
  ·rename_i e sz id off len hk
   have hu := kind_slice hi hk
   cases h; cases hx
   exact ⟨_, by simp [Builtin.len_, run_und hu, goInt], .int _ _⟩
  ·rename_i k e hk
   have hu := kind_map hi hk
   cases h; cases hx
   exact ⟨_, by simp [Builtin.len_, run_und hu, goInt], .int _ _⟩
  ·rename_i k e id hk
   have hu := kind_map hi hk
   split at h
   ·rename_i es hid
    cases h; cases hx
    obtain ⟨_, mes, h1, h2, _⟩ := hR.obj id _ hid
    exact ⟨_, by simp [Builtin.len_, run_und hu, goInt, run_getObjMap h1, ← h2], .int _ _⟩
   ·cases h
  ·rename_i m e hk
   have hu := kind_array hi hk
   cases h
   exact ⟨_, by cases cx <;> simp [Builtin.len_, run_und hu, goInt] <;> rfl, .int _ _⟩
  ·cases h
 ·cases h

theorem cap_run {t ty : TypeId} (h : capA P t x = some v) (hx : VR μ Z w n x cx) : ∃ cv, (Builtin.cap_ #[t] ty #[cx]).run P w = .ok cv w ∧ VR μ Z w n v cv := by
 unfold capA at h
 split at h
 ·rename_i ti hi
  split at h
  ·rename_i e sz es hk
   have hu := kind_slice hi hk
   cases h
   cases hx with
   | dl0 _ _ a cap q1 q2 =>
    have := q1 rfl; subst this
    exact ⟨_, by simp [Builtin.cap_, run_und hu, goInt], .int _ _⟩
   | dl _ _ _ c o cap f q1 q2 q3 q4 q5 q6 q7 =>
    have : cap = es.length := q7
    subst this
    exact ⟨_, by simp [Builtin.cap_, run_und hu, goInt], .int _ _⟩
  ·cases h
 ·cases h
theorem min_run (h : minA x y = some v) (hx : VR μ Z w n x cx) (hy : VR μ Z w n y cy) : ∃ cv, (Builtin.min2 cx cy).run P w = .ok cv w ∧ VR μ Z w n v cv := by
 unfold minA at h
 split at h
 ·split at h
  ·cases h; cases hx; cases hy; exact ⟨_, rfl, .int _ _⟩
  ·cases h
 ·cases h
theorem max_run (h : maxA x y = some v) (hx : VR μ Z w n x cx) (hy : VR μ Z w n y cy) : ∃ cv, (Builtin.max2 cx cy).run P w = .ok cv w ∧ VR μ Z w n v cv := by
 unfold maxA at h
 split at h
 ·split at h
  ·cases h; cases hx; cases hy; exact ⟨_, rfl, .int _ _⟩
  ·cases h
 ·cases h
end
end Go.Av
end

section
set_option linter.unusedSimpArgs false
set_option linter.unusedVariables false
namespace Go.Av
open Go.RowKit

/-- An operand that need not be there. -/
def VRo (μ : Nat → Nat × Nat) (Z : Nat → Nat → Prop) (w : World) (n : Nat) : Option AV → Option Value → Prop
 | none, none => True
 | some v, some cv => VR μ Z w n v cv
 | _, _ => False

section
variable {P : Program} {B : Nat} {w0 : World} {a : List AV} {H : AHeap} {μ : Nat → Nat × Nat} {Z : Nat → Nat → Prop} {w : World} {n : Nat}
variable {x y i v : AV} {cx cy ci : Value} {t : TypeId}

theorem bound_run {o : AV} {co : Value} {k y d : Nat} {code : BoundsCode} (hb : bnd d (some o) = some k) (ho : VR μ Z w n o co) (hle : k ≤ y) : (Instr.sliceBound co y code).run P w = .ok k w := by
 unfold bnd at hb
 split at hb
 ·cases ‹some o = none›
 ·rename_i heq; cases heq
  split at hb
  ·rename_i kk m h0
   cases hb; cases ho
   have : m ≤ (y : Int) := by omega
   simp [Instr.sliceBound, asIntOf, h0, this]
  ·cases hb
 ·cases hb

theorem bounds2_run {sl : Bool} {lo hi : Option AV} {clo chi : Option Value} {len cap l h : Nat} (hl : bnd 0 lo = some l) (hh : bnd len hi = some h) (h1 : l ≤ h) (h2 : h ≤ cap)
  (k1 : VRo μ Z w n lo clo) (k2 : VRo μ Z w n hi chi) : (Instr.sliceBounds sl len cap clo chi none).run P w = .ok (l, h, cap) w := by
 cases lo with
 | none =>
  cases clo with
  | none =>
   simp [bnd] at hl; subst hl
   cases hi with
   | none =>
    cases chi with
    | none => simp [bnd] at hh; subst hh; simp [Instr.sliceBounds]
    | some _ => exact k2.elim
   | some o =>
    cases chi with
    | none => exact k2.elim
    | some co => simp [Instr.sliceBounds, bound_run hh k2 h2]
  | some _ => exact k1.elim
 | some o1 =>
  cases clo with
  | none => exact k1.elim
  | some co1 =>
   cases hi with
   | none =>
    cases chi with
    | none => simp [bnd] at hh; subst hh; simp [Instr.sliceBounds, bound_run hl k1 h1]
    | some _ => exact k2.elim
   | some o =>
    cases chi with
    | none => exact k2.elim
    | some co => simp [Instr.sliceBounds, bound_run hh k2 h2, bound_run hl k1 h1]

theorem bounds3_run {sl : Bool} {lo : Option AV} {hi mx : AV} {clo : Option Value} {chi cmx : Value} {len cap l h m : Nat} (hl : bnd 0 lo = some l) (hh : bnd len (some hi) = some h) (hm : bnd 0 (some mx) = some m)
  (h1 : l ≤ h) (h2 : h ≤ m) (h3 : m ≤ cap) (k1 : VRo μ Z w n lo clo) (k2 : VR μ Z w n hi chi) (k3 : VR μ Z w n mx cmx) : (Instr.sliceBounds sl len cap clo (some chi) (some cmx)).run P w = .ok (l, h, m) w := by
 cases lo with
 | none =>
  cases clo with
  | none => simp [bnd] at hl; subst hl; simp [Instr.sliceBounds, bound_run hm k3 h3, bound_run hh k2 h2]
  | some _ => exact k1.elim
 | some o1 =>
  cases clo with
  | none => exact k1.elim
  | some co1 => simp [Instr.sliceBounds, bound_run hm k3 h3, bound_run hh k2 h2, bound_run hl k1 h1]

/-- The middle of a frozen slice. -/
theorem cut_vr {sz : Nat} {es : List AV} {tl : Tail} {A : Option Addr} {cap l h m : Nat} {mx : Option Nat} (hx : VR μ Z w n (.dl sz es tl) (.slice A es.length cap)) (h1 : l ≤ h) (h2 : h ≤ es.length)
  (h3 : es.length ≤ cap) (hm : match mx with | some k => m = k ∧ h ≤ m | none => m = cap) :
  VR μ Z w n (.dl sz ((es.take h).drop l) (cutTail l h es.length mx tl)) (.slice (if m = l then A else A.map (·.add (l * sz))) (h - l) (m - l)) := by
 have hmh : h ≤ m := by
  cases mx with
  | none => simp only at hm; omega
  | some k => exact hm.2
 by_cases he : l = h
 ·subst he
  have e1 : (es.take l).drop l = [] := by rw [List.drop_eq_nil_iff]; simp; omega
  rw [e1, Nat.sub_self]
  refine .dl0 _ _ _ _ ?_ ?_
  ·intro hf
   simp only [cutTail, if_true] at hf
   cases mx with
   | none =>
    simp only at hf hm
    split at hf
    ·rename_i hll
     have htl : tl = .full := by cases tl <;> first | rfl | cases hf
     subst htl
     have hcap : cap = es.length := by
      generalize hlen : es.length = L at *
      cases hx with
      | dl0 _ _ _ _ q1 _ => simp at hlen; have := q1 rfl; omega
      | dl _ _ _ _ _ _ _ _ _ _ _ _ _ q7 => exact q7
     omega
    ·cases hf
   | some k =>
    simp only at hf
    split at hf
    ·have := hm.1; omega
    ·cases hf
  ·intro t ht
   simp only [cutTail, if_true] at ht
   cases mx with
   | none =>
    simp only at ht
    split at ht
    ·cases tl <;> cases ht
    ·cases ht
   | some k => simp only at ht; split at ht <;> cases ht
 ·rw [if_neg (by omega)]
  generalize hlen : es.length = L at *
  cases hx with
  | dl0 => simp at hlen; omega
  | dl _ _ _ c o _ f hs hc k1 k2 k3 k5 ht =>
   have hfl := flat_length hs
   have hlen' : ((es.take h).drop l).length = h - l := by simp; omega
   have hflat : flat ((es.take h).drop l) = ((flat es).take (h * sz)).drop (l * sz) := by
    rw [flat_drop l (fun e he => hs e (List.mem_of_mem_take he)), flat_take h hs]
   have hget : ∀ j z, (flat ((es.take h).drop l))[j]? = some z → (flat es)[l * sz + j]? = some z := by
    intro j z hj
    rw [hflat, List.getElem?_drop, List.getElem?_take] at hj
    split at hj
    ·exact hj
    ·cases hj
   have hlt : ∀ j, j < (flat ((es.take h).drop l)).length → l * sz + j < (flat es).length := by
    intro j hj
    rw [hflat] at hj
    simp at hj
    omega
   simp only [Option.map_some, addr_add]
   rw [← hlen']
   refine .dl sz _ _ c (o + l * sz) _ (fun j => f (l * sz + j)) ?_ (by omega) ?_ ?_ ?_ ?_ ?_
   ·exact fun e he => hs e (List.mem_of_mem_take (List.mem_of_mem_drop he))
   ·intro j z hj; rw [Nat.add_assoc]; exact k1 _ _ (hget j z hj)
   ·intro j hj; rw [Nat.add_assoc]; exact k2 _ (hlt j hj)
   ·intro j z hj; exact k3 _ _ (hget j z hj)
   ·intro j hj; exact k5 _ (hlt j hj)
   ·unfold cutTail
    rw [if_neg he]
    cases mx with
    | some k =>
     simp only at hm ⊢
     split
     ·show m - l = _; omega
     ·trivial
    | none =>
     simp only at hm ⊢
     split
     ·rename_i hhl
      rw [hlen'] at *
      subst hm
      cases tl with
      | none => trivial
      | full => show _ - l = _; simp only [TailR] at ht; omega
      | tok t =>
       obtain ⟨q1, q2, q3, e, N, q4, q5⟩ := ht
       refine ⟨q1, ?_, q3, e, N, q4, ?_⟩
       ·rw [q2, hlen, ← hhl, Nat.add_assoc, ← Nat.add_mul]; congr 2; congr 1; omega
       ·rw [Nat.add_assoc, ← Nat.add_mul]; rw [show l + (m - l) = m by omega]; exact q5
     ·trivial

theorem slice_run {lo hi mx : Option AV} {clo chi cmx : Option Value} (h : sliceA P t x lo hi mx = some v) (hx : VR μ Z w n x cx) (k1 : VRo μ Z w n lo clo) (k2 : VRo μ Z w n hi chi) (k3 : VRo μ Z w n mx cmx) :
  ∃ cv, (Instr.sliceAt t cx clo chi cmx).run P w = .ok cv w ∧ VR μ Z w n v cv := by
 unfold sliceA at h
 split at h
 ·rename_i ti hi'
  split at h
  ·-- a string
   rename_i s hk
   have hu := kind_str hi' hk
   split at h
   ·rename_i l hh h1 h2
    split at h
    ·rename_i hc
     obtain ⟨c1, c2, c3⟩ := hc
     cases mx with
     | some _ => cases c3
     | none =>
      cases cmx with
      | some _ => exact k3.elim
      | none =>
       cases h; cases hx
       refine ⟨.string ⟨(((s.take hh).drop l)).toArray⟩, ?_, .str _⟩
       have hb := bounds2_run (P := P) (sl := false) (cap := s.length) h1 h2 c1 c2 k1 k2
       have hsz : (⟨s.toArray⟩ : ByteArray).size = s.length := rfl
       simp [Instr.sliceAt, Instr.slice, run_und hu, hsz, hb, ByteArray.extract_mk, List.drop_take]
    ·cases h
   ·cases h
  ·-- a frozen slice
   rename_i sz es tl e hk
   have hu := kind_slice hi' hk
   split at h
   ·rename_i te hte
    have hcx : ∃ A cap, cx = .slice A es.length cap ∧ es.length ≤ cap := by
     cases hx with
     | dl0 => exact ⟨_, _, rfl, Nat.zero_le _⟩
     | dl => exact ⟨_, _, rfl, by assumption⟩
    obtain ⟨A, cap, rfl, hcap⟩ := hcx
    split at h
    ·rename_i l hh h1 h2
     cases mx with
     | none =>
      cases cmx with
      | some _ => exact k3.elim
      | none =>
       simp only at h
       split at h
       ·rename_i hc
        obtain ⟨c1, c2, c3⟩ := hc
        cases h
        have hb := bounds2_run (P := P) (sl := true) (cap := cap) h1 h2 c1 (by omega) k1 k2
        have hv := cut_vr (mx := none) (m := cap) hx c1 c2 hcap rfl
        refine ⟨_, ?_, hv⟩
        rcases c3 with c3 | c3
        ·simp [Instr.sliceAt, Instr.slice, run_und hu, hb, run_sizeOf' hte, c3]
        ·obtain rfl : l = 0 := by omega
         simp [Instr.sliceAt, Instr.slice, run_und hu, hb, run_sizeOf' hte, Addr.add]
       ·cases h
     | some m' =>
      cases cmx with
      | none => exact k3.elim
      | some cm =>
       simp only at h
       split at h
       ·rename_i m hm
        split at h
        ·rename_i hc
         obtain ⟨c1, c2, c3, c4, c5⟩ := hc
         cases h
         cases hi with
         | none => cases c4
         | some hi =>
          cases chi with
          | none => exact k2.elim
          | some chi =>
           have hb := bounds3_run (P := P) (sl := true) (cap := cap) h1 h2 hm c1 c2 (by omega) k1 k2 k3
           have hv := cut_vr (mx := some m) (m := m) hx c1 (by omega) hcap ⟨rfl, c2⟩
           refine ⟨_, ?_, hv⟩
           rcases c5 with c5 | c5
           ·simp [Instr.sliceAt, Instr.slice, run_und hu, hb, run_sizeOf' hte, c5]
           ·obtain rfl : l = 0 := by omega
            simp [Instr.sliceAt, Instr.slice, run_und hu, hb, run_sizeOf' hte, Addr.add]
        ·cases h
       ·cases h
    ·cases h
   ·cases h
  ·-- an owned slice
   rename_i sz id off len e hk
   have hu := kind_slice hi' hk
   split at h
   ·rename_i te hte
    split at h
    ·rename_i l hh h1 h2
     split at h
     ·rename_i hc
      obtain ⟨c1, c2, c3, c4⟩ := hc
      cases mx with
      | some _ => cases c4
      | none =>
       cases cmx with
       | some _ => exact k3.elim
       | none =>
        cases hx with
        | sl _ _ _ _ cap hid hcap hsz e' N hN hN2 =>
         have hb := bounds2_run (P := P) (sl := true) (cap := cap) h1 h2 c1 (by omega) k1 k2
         split at h
         ·rename_i hl
          cases h
          obtain ⟨rfl, _⟩ := hl
          refine ⟨_, by simp [Instr.sliceAt, Instr.slice, run_und hu, hb, run_sizeOf' hte]; rfl, ?_⟩
          exact .dl0 _ _ _ _ (by simp) (by simp)
         ·rename_i hl
          cases h
          refine ⟨.slice (some ⟨(μ id).1, (μ id).2 + off + l * sz, none⟩) (hh - l) (cap - l), ?_, ?_⟩
          ·by_cases hcl : cap = l
           ·obtain rfl : l = 0 := by omega
            simp [Instr.sliceAt, Instr.slice, run_und hu, hb, run_sizeOf' hte, addr_add, c3, Addr.add]
           ·simp [Instr.sliceAt, Instr.slice, run_und hu, hb, run_sizeOf' hte, addr_add, c3, hcl]
          ·rw [Nat.add_assoc]
           refine .sl sz id (off + l * sz) (hh - l) (cap - l) hid (by omega) hsz e' N hN ?_
           have : l * sz + (cap - l) * sz = cap * sz := by rw [← Nat.add_mul]; congr 1; omega
           omega
     ·cases h
    ·cases h
   ·cases h
  ·cases h
 ·cases h
end
end Go.Av
end

section
set_option linter.unusedSimpArgs false
set_option linter.unusedVariables false
namespace Go.Av
open Go.RowKit

theorem putAll_get (off : Nat) : ∀ (l : List Value) (s : Nat) (cs : Array Value),
  ((l.zipIdx s).foldl (fun (cs : Array Value) (p : Value × Nat) => cs.setIfInBounds (off + p.2) p.1) cs).size = cs.size ∧
  ∀ k : Nat, off + s + l.length ≤ cs.size → ((l.zipIdx s).foldl (fun (cs : Array Value) (p : Value × Nat) => cs.setIfInBounds (off + p.2) p.1) cs)[k]? = if off + s ≤ k ∧ k < off + s + l.length then l[k - (off + s)]? else cs[k]?
 | [], s, cs => ⟨rfl, fun k h => by simp; omega⟩
 | v :: l, s, cs => by
  obtain ⟨h1, h2⟩ := putAll_get off l (s + 1) (cs.setIfInBounds (off + s) v)
  rw [List.zipIdx_cons, List.foldl_cons]
  refine ⟨by rw [h1]; simp, fun k hk => ?_⟩
  simp only [List.length_cons] at hk ⊢
  rw [h2 k (by simp; omega)]
  by_cases hk0 : k = off + s
  ·subst hk0
   rw [if_neg (by omega), if_pos (by omega)]
   have hlt : off + s < cs.size := by omega
   simp [Array.getElem?_setIfInBounds, hlt]
  ·by_cases hc : off + (s + 1) ≤ k ∧ k < off + (s + 1) + l.length
   ·rw [if_pos hc, if_pos (by omega)]
    rw [show k - (off + s) = (k - (off + (s + 1))) + 1 by omega, List.getElem?_cons_succ]
   ·rw [if_neg hc, if_neg (by omega), Array.getElem?_setIfInBounds, if_neg (by omega)]

section
variable {P : Program} {B : Nat} {w0 : World} {a : List AV} {H : AHeap} {μ : Nat → Nat × Nat} {Z : Nat → Nat → Prop} {w : World} {n : Nat}
variable {x y i v : AV} {cx cy ci : Value} {t : TypeId}

theorem VR.cells (hx : VR μ Z w n x cx) (hne : x ≠ .undef) : VRs μ Z w n x.cells cx.cells := by
 have one : ∀ {x : AV} {cx : Value}, VR μ Z w n x cx → VRs μ Z w n [x] #[cx] := fun h => ⟨rfl, fun j v hj => by
  cases j with
  | zero => simp at hj; subst hj; exact ⟨_, rfl, h⟩
  | succ j => simp at hj⟩
 cases hx with
 | undef => exact absurd rfl hne
 | agg cs vs hl f h1 h2 => exact ⟨hl, fun j v hj => ⟨f j, h1 j v hj, h2 j v hj⟩⟩
 | bool => exact one (.bool _)
 | int => exact one (.int _ _)
 | str => exact one (.str _)
 | nilp => exact one .nilp
 | ptr id off h => exact one (.ptr id off h)
 | dp cells off c o f h1 h2 h3 h5 => exact one (.dp cells off c o f h1 h2 h3 h5)
 | dl0 sz tl a cap h ht => exact one (.dl0 sz tl a cap h ht)
 | dl sz elems tl c o cap f hs hc h1 h2 h3 h5 ht => exact one (.dl sz elems tl c o cap f hs hc h1 h2 h3 h5 ht)
 | sl sz id off len cap h hc hsz e N hN hcap => exact one (.sl sz id off len cap h hc hsz e N hN hcap)
 | tup cs vs hl f h1 h2 => exact one (.tup cs vs hl f h1 h2)
 | fn k c1 c2 v1 v2 hl1 hl2 f g h1 h2 h3 h4 => exact one (.fn k c1 c2 v1 v2 hl1 hl2 f g h1 h2 h3 h4)
 | yield l h => exact one (.yield l h)
 | nilfn => exact one .nilfn
 | nilm => exact one .nilm
 | map id h => exact one (.map id h)
 | nilif => exact one .nilif
 | iface t v v' h => exact one (.iface t v v' h)

/-- Parts and their values, one beside the other. -/
def PRs (μ : Nat → Nat × Nat) (Z : Nat → Nat → Prop) (w : World) (n : Nat) : List (Nat × AV) → List (Nat × Value) → Prop
 | [], [] => True
 | (i, v) :: l, (j, cv) :: l' => i = j ∧ VR μ Z w n v cv ∧ PRs μ Z w n l l'
 | _, _ => False

theorem fill_run {pl : Nat → Option (Nat × Nat)} {pl' : Nat → Option (Nat × Nat)} (hpl : ∀ i q, pl i = some q → pl' i = some q) : ∀ {parts : List (Nat × AV)} {cparts : List (Nat × Value)} {cs r : List AV} {vs : Array Value},
  fillA pl cs parts = some r → PRs μ Z w n parts cparts → VRs μ Z w n cs vs → ∃ rs, Instr.fill pl' vs cparts = some rs ∧ VRs μ Z w n r rs
 | [], [], cs, r, vs, h, _, hc => by simp [fillA] at h; subst h; exact ⟨vs, rfl, hc⟩
 | (i, v) :: l, (j, cv) :: l', cs, r, vs, h, hp, hc => by
  obtain ⟨rfl, hv, hrest⟩ := hp
  unfold fillA at h
  split at h
  ·cases h
  ·rename_i v _ _ off size hq hnu
   split at h
   ·rename_i hcond
    obtain ⟨h1, h2⟩ := hcond
    have hne : v ≠ .undef := fun e => hnu e
    have hcv := hv.cells hne
    have hsz : cv.cells.size = size := by rw [← h1]; exact hcv.1.symm
    have hput := putAll_get off cv.cells.toList 0 vs
    have hnew : VRs μ Z w n (cs.take off ++ v.cells ++ cs.drop (off + size)) ((cv.cells.toList.zipIdx 0).foldl (fun (cs : Array Value) (p : Value × Nat) => cs.setIfInBounds (off + p.2) p.1) vs) := by
     have hcl := hc.1
     refine ⟨by rw [hput.1]; simp; omega, fun k z hk => ?_⟩
     rw [hput.2 k (by simp [hsz]; omega)]
     simp only [Nat.add_zero, Array.length_toList, hsz]
     by_cases hk1 : k < off
     ·rw [if_neg (by omega)]
      rw [List.append_assoc, List.getElem?_append_left (by simp; omega), List.getElem?_take, if_pos hk1] at hk
      exact hc.2 k z hk
     ·by_cases hk2 : k < off + size
      ·rw [if_pos (by omega)]
       rw [List.append_assoc, List.getElem?_append_right (by simp; omega), List.getElem?_append_left (by simp; omega)] at hk
       have : k - (List.take off cs).length = k - off := by simp; omega
       rw [this] at hk
       obtain ⟨u, h3, h4⟩ := hcv.2 _ _ hk
       exact ⟨u, by simpa using h3, h4⟩
      ·rw [if_neg (by omega)]
       rw [List.getElem?_append_right (by simp; omega), List.getElem?_drop] at hk
       have : off + size + (k - (List.take off cs ++ v.cells).length) = k := by simp; omega
       rw [this] at hk
       exact hc.2 k z hk
    obtain ⟨rs, h3, h4⟩ := fill_run hpl h hrest hnew
    refine ⟨rs, ?_, h4⟩
    rw [Instr.fill, hpl _ _ hq]
    have hcond2 : ¬ ((decide (cv.cells.size ≠ size) || decide (off + cv.cells.size > vs.size)) = true) := by
     have := hc.1
     simp [hsz]; omega
    simp only
    rw [if_neg hcond2, ← h3]
    congr 1
    rw [← Array.foldl_toList, Array.toList_zipIdx]
   ·cases h
  ·cases h
 | [], _ :: _, _, _, _, _, hp, _ => hp.elim
 | _ :: _, [], _, _, _, _, hp, _ => hp.elim

theorem mapM_some {α β : Type} {w : World} (f : α → Sem β) (g : α → β) : ∀ (l : List α), (∀ x, x ∈ l → (f x).run P w = .ok (g x) w) → (l.mapM f).run P w = .ok (l.map g) w
 | [], _ => by simp [Sem.run_pure]
 | x :: l, h => by
  have h1 := h x (by simp)
  have h2 := mapM_some f g l (fun y hy => h y (by simp [hy]))
  simp [List.mapM_cons, h1, h2]

theorem build_run {parts : List (Nat × AV)} {cparts : Array (Nat × Value)} (h : buildA P t parts = some v) (hp : PRs μ Z w n parts cparts.toList) : ∃ cv, (Instr.build t cparts).run P w = .ok cv w ∧ VR μ Z w n v cv := by
 unfold buildA at h
 split at h
 ·rename_i ti hi
  split at h
  ·rename_i z hz
   split at h
   ·rename_i hall
    cases hf : fillA (placeA P ti.kind) z parts with
    | none => rw [hf] at h; cases h
    | some r =>
     rw [hf] at h
     simp only [Option.map_some, Option.some.injEq] at h
     subst h
     obtain ⟨inf, zv, h1, h2, h3, h4⟩ := zero_some (w := w) hi hz
     have hzv : VR μ Z w n (.agg z) zv := by rw [h3]; exact VR.ofVal zv
     obtain ⟨vs, rfl, hzs⟩ := hzv.agg_inv
     cases hk : ti.kind with
     | struct fs =>
      rw [hk] at hf hall
      obtain ⟨gs, hu, hgs⟩ := kind_struct hi hk
      simp only [allTy, List.all_eq_true] at hall
      have hpl : ∀ i q, placeA P (.struct fs) i = some q → (gs.map fun f => (f.offset, ((tyA P f.type).map (·.size)).getD 0))[i]? = some q := by
       intro i q hq
       simp only [placeA] at hq
       split at hq
       ·rename_i off ft hfi
        rw [← hgs] at hfi
        simp only [List.getElem?_map, Array.getElem?_toList, Option.map_eq_some_iff, Prod.mk.injEq] at hfi
        obtain ⟨g, hg1, hg2, hg3⟩ := hfi
        simp only [Array.getElem?_map, hg1, Option.map_some]
        rw [hg3]
        cases hj : tyA P ft with
        | none => rw [hj] at hq; cases hq
        | some j => rw [hj] at hq; simp at hq ⊢; rw [← hq, hg2]
       ·cases hq
      obtain ⟨rs, h5, h6⟩ := fill_run hpl hf hp hzs
      refine ⟨.agg rs, ?_, h6.agg⟩
      have hm : (gs.mapM fun f => (do pure (f.offset, ← sizeOf f.type) : Sem (Nat × Nat))).run P w = .ok (gs.map fun f => (f.offset, ((tyA P f.type).map (·.size)).getD 0)) w := by
       rw [Array.mapM_eq_mapM_toList]
       have := mapM_some (P := P) (w := w) (fun f : Field => (do pure (f.offset, ← sizeOf f.type) : Sem (Nat × Nat))) (fun f => (f.offset, ((tyA P f.type).map (·.size)).getD 0)) gs.toList (fun f hf => by
        have : (tyA P f.type).isSome = true := by
         have := hall (f.offset, f.type) (by rw [← hgs]; exact List.mem_map.2 ⟨f, hf, rfl⟩)
         exact this
        obtain ⟨j, hj⟩ := Option.isSome_iff_exists.1 this
        simp [run_sizeOf' hj, hj])
       have hmap : ∀ (m : Sem (List (Nat × Nat))) (r : List (Nat × Nat)), m.run P w = .ok r w → (List.toArray <$> m).run P w = .ok r.toArray w := by
        intro m r hm
        show (m >>= fun x => pure x.toArray).run P w = _
        simp [hm]
       rw [hmap _ _ this]
       congr 1
       apply Array.ext'
       simp
      have h5' : Instr.fill (fun x => (gs.map fun f => (f.offset, ((tyA P f.type).map (·.size)).getD 0))[x]?) vs cparts.toList = some rs := h5
      simp only [Instr.build, Sem.run_bind, h4, Result.andThen_ok, run_und hu, Value.cells, hm, h5']
      rfl
     | array m e =>
      rw [hk] at hf hall
      have hu := kind_array hi hk
      simp only [allTy] at hall
      obtain ⟨j, hj⟩ := Option.isSome_iff_exists.1 hall
      have hpl : ∀ i q, placeA P (.array m e) i = some q → (fun i => some (i * j.size, j.size) : Nat → Option (Nat × Nat)) i = some q := by
       intro i q hq
       simp only [placeA, hj, Option.map_some] at hq
       exact hq
      obtain ⟨rs, h5, h6⟩ := fill_run hpl hf hp hzs
      exact ⟨.agg rs, by simp [Instr.build, h4, run_und hu, run_sizeOf' hj, Value.cells, h5], h6.agg⟩
     | _ => rw [hk] at hall; cases hall
   ·cases h
  ·cases h
 ·cases h
end
end Go.Av
end

section
set_option linter.unusedSimpArgs false
set_option linter.unusedVariables false
namespace Go.Av
open Go.RowKit

section
variable {P : Program} {B : Nat} {w0 : World} {a : List AV} {H : AHeap} {μ : Nat → Nat × Nat} {Z : Nat → Nat → Prop} {w : World} {n : Nat}
variable {x y i v : AV} {cx cy ci : Value} {t : TypeId}

theorem vrs_map {ca : Act} (he : ∀ x, VR μ Z w n (ev a x) (ca.eval x)) (l : Array Operand) : VRs μ Z w n (l.toList.map (ev a)) (l.map ca.eval) := by
 refine ⟨by simp, fun j v hj => ?_⟩
 simp only [List.getElem?_map, Array.getElem?_toList, Option.map_eq_some_iff] at hj
 obtain ⟨o, h1, rfl⟩ := hj
 exact ⟨_, by simp [h1], he o⟩

theorem vro_map {ca : Act} (he : ∀ x, VR μ Z w n (ev a x) (ca.eval x)) (o : Option Operand) : VRo μ Z w n (o.map (ev a)) (o.map ca.eval) := by
 cases o with
 | none => trivial
 | some o => exact he o

theorem prs_map {ca : Act} (he : ∀ x, VR μ Z w n (ev a x) (ca.eval x)) : ∀ (l : List (Nat × Operand)), PRs μ Z w n (l.map fun p => (p.1, ev a p.2)) (l.map fun p => (p.1, ca.eval p.2))
 | [] => trivial
 | (i, o) :: l => ⟨rfl, he o, prs_map he l⟩

theorem nilCheck_run {o : Oper} {ρ : Operand → Value} {ox : Operand} (ho : o.op = .nilCheck ox) (h : nilCheckA x = some v) (hx : VR μ Z w n x (ρ ox)) : ∃ cv, (execOp ρ o).run P w = .ok (.value cv) w ∧ VR μ Z w n v cv := by
 unfold execOp
 rw [ho]
 simp only
 generalize ρ ox = cx at hx ⊢
 unfold nilCheckA at h
 split at h
 ·cases h; cases hx; exact ⟨_, rfl, .ptr _ _ (by assumption)⟩
 ·cases h
  cases hx with
  | dp _ _ c o f h1 h2 h3 h5 => exact ⟨_, rfl, .dp _ _ c o f h1 h2 h3 h5⟩
 ·cases h
  cases hx with
  | fn k _ _ v1 v2 hl1 hl2 f g h1 h2 h3 h4 => exact ⟨_, rfl, .fn k _ _ v1 v2 hl1 hl2 f g h1 h2 h3 h4⟩
  | yield l h => exact ⟨_, rfl, .yield l h⟩
 ·cases h

/-- AN OPERATION THAT WRITES NOTHING. -/
theorem pure_run {o : Oper} {ca : Act} (h : pureA P H a o.op = some v) (hR : R B w0 μ Z H w) (he : ∀ x, VR μ Z w H.length (ev a x) (ca.eval x)) :
  ∃ cv, (execOp ca.eval o).run P w = .ok (.value cv) w ∧ VR μ Z w H.length v cv := by
 unfold pureA at h
 split at h
 ·rename_i ox ho; cases h; exact ⟨_, by simp [execOp, ho, Sem.run_pure], he ox⟩
 ·rename_i ox ho; cases h; exact ⟨_, by simp [execOp, ho, Sem.run_pure], he ox⟩
 ·rename_i oc ox oy ho
  obtain ⟨cv, h1, h2⟩ := pickA_run (P := P) h (he oc) (he ox) (he oy)
  exact ⟨cv, by simp only [execOp, ho]; exact h1, h2⟩
 ·rename_i op ty ox oy ty' ho
  obtain ⟨cv, h1, h2⟩ := binA_run (P := P) (ox := ox) (oy := oy) h (he ox) (he oy)
  exact ⟨cv, by simp only [execOp, ho, Sem.run_bind, h1, Result.andThen_ok, Sem.run_pure] , h2⟩
 ·rename_i op ty ox ho
  obtain ⟨cv, h1, h2⟩ := unA_run (P := P) h (he ox)
  exact ⟨cv, by simp only [execOp, ho, Sem.run_bind, h1, Result.andThen_ok, Sem.run_pure], h2⟩
 ·rename_i s d ox ho
  obtain ⟨cv, h1, h2⟩ := convA_run (P := P) h (he ox)
  exact ⟨cv, by simp only [execOp, ho, Sem.run_bind, h1, Result.andThen_ok, Sem.run_pure], h2⟩
 ·rename_i k first cap ho
  cases h
  have hf := vrs_map he first
  have hc := vrs_map he cap
  obtain ⟨f, f1, f2⟩ := hf.skolem
  obtain ⟨g, g1, g2⟩ := hc.skolem
  refine ⟨.func (.func k) (first.map ca.eval) (cap.map ca.eval), by simp only [execOp, ho, Instr.makeFunc, Sem.run_bind, Result.andThen_ok, Sem.run_pure], ?_⟩
  exact .fn k _ _ _ _ hf.1 hc.1 f g f1 f2 g1 g2
 ·rename_i s ox f ho
  obtain ⟨cv, h1, h2⟩ := fieldAddr_run (P := P) h (he ox)
  exact ⟨cv, by simp only [execOp, ho, Sem.run_bind, h1, Result.andThen_ok, Sem.run_pure], h2⟩
 ·rename_i s ox f ho
  obtain ⟨cv, h1, h2⟩ := field_run (P := P) h (he ox)
  exact ⟨cv, by simp only [execOp, ho, Sem.run_bind, h1, Result.andThen_ok, Sem.run_pure], h2⟩
 ·rename_i s ox oi ho
  obtain ⟨cv, h1, h2⟩ := indexAddr_run (P := P) h (he ox) (he oi)
  exact ⟨cv, by simp only [execOp, ho, Sem.run_bind, h1, Result.andThen_ok, Sem.run_pure], h2⟩
 ·rename_i s ox oi ho
  obtain ⟨cv, h1, h2⟩ := index_run (P := P) h (he ox) (he oi)
  exact ⟨cv, by simp only [execOp, ho, Sem.run_bind, h1, Result.andThen_ok, Sem.run_pure], h2⟩
 ·rename_i s ox lo hi mx ho
  obtain ⟨cv, h1, h2⟩ := slice_run (P := P) h (he ox) (vro_map he lo) (vro_map he hi) (vro_map he mx)
  exact ⟨cv, by simp only [execOp, ho, Sem.run_bind, h1, Result.andThen_ok, Sem.run_pure], h2⟩
 ·rename_i ox k ho
  obtain ⟨cv, h1, h2⟩ := extract_run (P := P) h (he ox)
  exact ⟨cv, by simp only [execOp, ho, Sem.run_bind, h1, Result.andThen_ok, Sem.run_pure], h2⟩
 ·rename_i ox ho
  exact nilCheck_run ho h (he ox)
 ·rename_i ty parts ho
  obtain ⟨cv, h1, h2⟩ := build_run (P := P) (cparts := parts.map fun p => (p.1, ca.eval p.2)) h (by simpa using prs_map he parts.toList)
  exact ⟨cv, by simp only [execOp, ho, Sem.run_bind, h1, Result.andThen_ok, Sem.run_pure], h2⟩
 ·rename_i ty ox ho
  cases hc : cellsAt H (ev a ox) with
  | none => rw [hc] at h; cases h
  | some l =>
   rw [hc] at h
   simp only [Option.bind_some] at h
   obtain ⟨c, o', h1, h2⟩ := cells_get hc hR (he ox)
   obtain ⟨cv, h3, h4, _⟩ := load_run (P := P) h h2
   exact ⟨cv, by simp only [execOp, ho, h1, Instr.loadAt, Instr.sureAddr, Sem.run_bind, Sem.run_pure, h3, Result.andThen_ok], h4⟩
 ·rename_i c ho
  obtain ⟨callee, ⟨args⟩, ⟨tys⟩⟩ := c
  unfold biA at h
  split at h
  ·rename_i ox ty hce hargs htys
   simp only at hce hargs htys
   subst hce; subst hargs; subst htys
   obtain ⟨cv, h1, h2⟩ := len_run (P := P) h hR (he ox)
   refine ⟨cv, ?_, h2⟩
   have h1' : (Builtin.len_ #[ty] o.type #[ca.eval ox]).run P w = .ok cv w := h1
   simp only [execOp, ho, resolve, Sem.run_bind, Sem.run_pure, Result.andThen_ok, invoke, builtin, List.map_toArray, List.map_cons, List.map_nil, h1']
  ·rename_i ox ty hce hargs htys
   simp only at hce hargs htys
   subst hce; subst hargs; subst htys
   obtain ⟨cv, h1, h2⟩ := cap_run (P := P) (ty := o.type) h (he ox)
   refine ⟨cv, ?_, h2⟩
   have h1' : (Builtin.cap_ #[ty] o.type #[ca.eval ox]).run P w = .ok cv w := h1
   simp only [execOp, ho, resolve, Sem.run_bind, Sem.run_pure, Result.andThen_ok, invoke, builtin, List.map_toArray, List.map_cons, List.map_nil, h1']
  ·rename_i ox oy hce hargs
   simp only at hce hargs
   subst hce; subst hargs
   obtain ⟨cv, h1, h2⟩ := min_run (P := P) h (he ox) (he oy)
   refine ⟨cv, ?_, h2⟩
   simp only [execOp, ho, resolve, Sem.run_bind, Sem.run_pure, Result.andThen_ok, invoke, builtin, List.map_toArray, List.map_cons, List.map_nil, Builtin.min_, List.foldlM_cons, List.foldlM_nil, h1]
  ·rename_i ox oy hce hargs
   simp only at hce hargs
   subst hce; subst hargs
   obtain ⟨cv, h1, h2⟩ := max_run (P := P) h (he ox) (he oy)
   refine ⟨cv, ?_, h2⟩
   simp only [execOp, ho, resolve, Sem.run_bind, Sem.run_pure, Result.andThen_ok, invoke, builtin, List.map_toArray, List.map_cons, List.map_nil, Builtin.max_, List.foldlM_cons, List.foldlM_nil, h1]
  ·cases h
 ·cases h
end
end Go.Av
end
