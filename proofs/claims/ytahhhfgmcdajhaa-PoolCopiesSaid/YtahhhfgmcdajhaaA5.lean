/- the layer over the model, part 5 -/
import Derived.Test.YtahhhfgmcdajhaaA4
set_option autoImplicit false
set_option linter.unusedSimpArgs false
set_option linter.unusedVariables false
set_option linter.unnecessarySimpa false
section
set_option linter.unusedSimpArgs false
set_option linter.unusedVariables false
namespace Go.Av
open Go.RowKit
/-! Maps: keys are whole numbers or structs of such. -/

/-- The kind of a map's key. -/
inductive KK where
 | i
 | s (n : Nat)
def KK.len : KK → Nat
 | .i => 1
 | .s n => n
def KK.v : KK → List Int → Value
 | .i, l => .int .i64 (l.headD 0)
 | .s _, l => .agg (l.map (Value.int .i64)).toArray
def KK.a : KK → List Int → AV
 | .i, l => .int .i64 (l.headD 0)
 | .s _, l => .agg (l.map (AV.int .i64))

/-- What the operations on maps ask of a key's type. -/
structure KeyLw (P : Program) (kt : TypeId) (kk : KK) : Prop where
 check : ∀ (em : Bool) (L : List Int) (w : World), L.length = kk.len → (Instr.checkKey em 10000 kt (kk.v L)).run P w = .ok () w
 eq : ∀ (L L' : List Int) (w : World), L.length = kk.len → L'.length = kk.len → (Op.equal kt (kk.v L) (kk.v L')).run P w = .ok (decide (L = L')) w
 stays : ∀ L : List Int, Instr.sameBits 10000 (kk.v L) (kk.v L) = true

theorem KK.inj {kk : KK} {L L' : List Int} (h1 : L.length = kk.len) (h2 : L'.length = kk.len) (h : kk.v L = kk.v L') : L = L' := by
 cases kk with
 | i =>
  match L, L', h1, h2 with
  | [a], [b], _, _ => simp [KK.v] at h; rw [h]
 | s n =>
  simp only [KK.v, Value.agg.injEq] at h
  have h3 := congrArg Array.toList h
  simp only at h3
  exact (List.map_inj_right (fun x y e => by cases e; rfl)).1 h3

section
variable {P : Program} {B : Nat} {w0 : World} {a : List AV} {H : AHeap} {μ μ' : Nat → Nat × Nat} {Z Z' : Nat → Nat → Prop} {w w' : World} {n n' : Nat}
variable {x y i v : AV} {cx cy ci : Value} {t t2 ty e : TypeId}

theorem KK.vr {kk : KK} {L : List Int} {c : Value} (h1 : L.length = kk.len) (h : VR μ Z w n (kk.a L) c) : c = kk.v L := by
 cases kk with
 | i =>
  match L, h1 with
  | [b], _ => simp only [KK.a, List.headD_cons] at h; cases h; rfl
 | s m =>
  simp only [KK.a] at h
  cases h with
  | agg _ vs hl f k1 k2 =>
   simp only [KK.v, Value.agg.injEq]
   apply Array.ext'
   simp only
   refine List.ext_getElem? fun j => ?_
   by_cases hj : j < L.length
   ·have e1 : (L.map (AV.int .i64))[j]? = some (.int .i64 L[j]) := by simp [hj]
    have e2 := k1 j _ e1
    have e3 := k2 j _ e1
    rw [show vs.toList[j]? = vs[j]? by simp, e2]
    cases hf : f j <;> rw [hf] at e3 <;> cases e3
    simp [hj]
   ·rw [List.getElem?_eq_none (by simp at hl ⊢; omega), List.getElem?_eq_none (by simp at hl ⊢; omega)]
theorem KK.vr' (kk : KK) (L : List Int) : VR μ Z w n (kk.a L) (kk.v L) := by
 cases kk with
 | i => exact .int _ _
 | s m =>
  refine .agg _ _ (by simp) (fun j => .int .i64 (L.getD j 0)) (fun j v hj => ?_) (fun j v hj => ?_)
  ·have := (List.getElem?_eq_some_iff.1 hj).1
   simp at this
   simp [List.getD, this]
  ·have := (List.getElem?_eq_some_iff.1 hj).1
   simp at this
   simp [this] at hj
   subst hj
   simp only [List.getD, List.getElem?_eq_getElem this, Option.getD_some]
   exact .int _ _

/-- the entries with their stamps -/
abbrev ME := Nat × List Int × AV
def mraw (kk : KK) (ms : List ME) : List (Nat × AV × AV) := ms.map fun e => (e.1, kk.a e.2.1, e.2.2)
def mOk (kk : KK) (ms : List ME) : Prop := ∀ e, e ∈ ms → e.2.1.length = kk.len
def midx (ms : List ME) (L : List Int) : Option Nat := ms.findIdx? (fun e => e.2.1 == L)

/-- The model's entries against a map's. -/
structure MR (μ : Nat → Nat × Nat) (Z : Nat → Nat → Prop) (w : World) (n : Nat) (kk : KK) (ms : List ME) (es : Array MapEntry) : Prop where
 len : ms.length = es.size
 at_ : ∀ (j : Nat) (b : Nat) (L : List Int) (v : AV), ms[j]? = some (b, L, v) → ∃ e : MapEntry, es[j]? = some e ∧ e.born = b ∧ e.key = kk.v L ∧ VR μ Z w n v e.val

theorem MR.of (hR : R B w0 μ Z H w) {id : Nat} {kk : KK} {ms : List ME} {clock : Nat} (hid : H[id]? = some (.map (mraw kk ms) clock)) (hok : mOk kk ms) :
  B ≤ (μ id).1 ∧ ∃ es, w.heap[(μ id).1]? = some (.map es clock) ∧ MR μ Z w H.length kk ms es := by
 obtain ⟨h1, es, h2, h3, h4⟩ := hR.obj id _ hid
 refine ⟨h1, es, h2, by simpa [mraw] using h3, fun j b L v hj => ?_⟩
 obtain ⟨e, k1, k2, k3, k4⟩ := h4 j b (kk.a L) v (by simp [mraw, hj])
 exact ⟨e, k1, k2, KK.vr (hok _ (List.mem_of_getElem? hj)) k3, k4⟩

theorem sameNow_spec {kk : KK} {L : List Int} {d : TypeDesc} {b : Value} {r : Bool} (h : Instr.sameNow d (kk.v L) b = some r) : r = true ↔ kk.v L = b := by
 cases kk with
 | i =>
  simp only [KK.v] at h ⊢
  cases d <;> cases b <;> simp only [Instr.sameNow, reduceCtorEq] at h
  split at h
  ·cases h; rename_i hk; subst hk; simp
  ·cases h
 | s n =>
  simp only [KK.v] at h ⊢
  cases d <;> cases b <;> simp only [Instr.sameNow, reduceCtorEq] at h

theorem findAsking_spec {kt : TypeId} {kk : KK} (KL : KeyLw P kt kk) (L : List Int) (hL : L.length = kk.len) : ∀ (es : List MapEntry) (i : Nat), (∀ e, e ∈ es → ∃ L' : List Int, L'.length = kk.len ∧ e.key = kk.v L') →
  ((Instr.findAsking kt (kk.v L) es i).run P w = .ok none w ∧ ∀ e, e ∈ es → e.key ≠ kk.v L) ∨
  ∃ (j : Nat) (e : MapEntry), (Instr.findAsking kt (kk.v L) es i).run P w = .ok (some (i + j, e.val)) w ∧ es[j]? = some e ∧ e.key = kk.v L ∧ ∀ (m : Nat) (e' : MapEntry), m < j → es[m]? = some e' → e'.key ≠ kk.v L
 | [], i, _ => .inl ⟨by simp [Instr.findAsking], fun e h => by cases h⟩
 | e :: es, i, hk => by
  obtain ⟨L', h1, h2⟩ := hk e (by simp)
  have heq := KL.eq L L' w hL h1
  rw [← h2] at heq
  by_cases hc : L = L'
  ·refine .inr ⟨0, e, ?_, rfl, by rw [h2, hc], fun m e' hm => by omega⟩
   simp only [Instr.findAsking, Sem.run_bind, heq, Result.andThen_ok, decide_eq_true hc, if_true, Sem.run_pure, Nat.add_zero]
  ·have hne : e.key ≠ kk.v L := fun q => hc (KK.inj hL h1 (by rw [← q, h2]))
   rcases findAsking_spec KL L hL es (i + 1) (fun e' he' => hk e' (by simp [he'])) with ⟨k1, k2⟩ | ⟨j, e', k1, k2, k3, k4⟩
   ·refine .inl ⟨by simp only [Instr.findAsking, Sem.run_bind, heq, Result.andThen_ok, decide_eq_false hc, Bool.false_eq_true, if_false, k1], fun e' he' => ?_⟩
    rcases List.mem_cons.1 he' with rfl | he'
    ·exact hne
    ·exact k2 e' he'
   ·refine .inr ⟨j + 1, e', ?_, by simpa using k2, k3, fun m e2 hm he2 => ?_⟩
    ·simp only [Instr.findAsking, Sem.run_bind, heq, Result.andThen_ok, decide_eq_false hc, Bool.false_eq_true, if_false, k1, show i + 1 + j = i + (j + 1) by omega]
    ·cases m with
     | zero => simp at he2; subst he2; exact hne
     | succ m => exact k4 m e2 (by omega) (by simpa using he2)

theorem findNow_spec {d : TypeDesc} {kk : KK} {LL : List Int} : ∀ (es : List MapEntry) (i : Nat) (r : Option (Nat × Value)), Instr.findNow d (kk.v LL) es i = some r →
  (r = none ∧ ∀ e, e ∈ es → e.key ≠ kk.v LL) ∨ ∃ (j : Nat) (e : MapEntry), r = some (i + j, e.val) ∧ es[j]? = some e ∧ e.key = kk.v LL ∧ ∀ (m : Nat) (e' : MapEntry), m < j → es[m]? = some e' → e'.key ≠ kk.v LL
 | [], i, r, h => by cases h; exact .inl ⟨rfl, fun e h => by cases h⟩
 | e :: es, i, r, h => by
  rw [Instr.findNow] at h
  split at h
  ·cases h
   rename_i hs
   exact .inr ⟨0, e, rfl, rfl, ((sameNow_spec hs).1 rfl).symm, fun m e' hm => by omega⟩
  ·rename_i hs
   have hne : e.key ≠ kk.v LL := fun q => by have := (sameNow_spec hs).2 q.symm; cases this
   rcases findNow_spec es (i + 1) r h with ⟨k1, k2⟩ | ⟨j, e', k1, k2, k3, k4⟩
   ·refine .inl ⟨k1, fun e' he' => ?_⟩
    rcases List.mem_cons.1 he' with rfl | he'
    ·exact hne
    ·exact k2 e' he'
   ·refine .inr ⟨j + 1, e', by rw [k1]; congr 2; omega, by simpa using k2, k3, fun m e2 hm he2 => ?_⟩
    cases m with
    | zero => simp at he2; subst he2; exact hne
    | succ m => exact k4 m e2 (by omega) (by simpa using he2)
  ·cases h

/-- The search for a key. -/
theorem findKey_run {kt : TypeId} {kk : KK} {d : TypeDesc} (hd : P.underlying kt = some d) (KL : KeyLw P kt kk) {L : List Int} (hL : L.length = kk.len) {ms : List ME} {es : Array MapEntry} (hm : MR μ Z w' n kk ms es) (hok : mOk kk ms) :
  (midx ms L = none ∧ (Instr.findKey kt (kk.v L) es.toList).run P w = .ok none w) ∨
  ∃ (j : Nat) (b : Nat) (v : AV) (e : MapEntry), midx ms L = some j ∧ (Instr.findKey kt (kk.v L) es.toList).run P w = .ok (some (j, e.val)) w ∧ ms[j]? = some (b, L, v) ∧ es[j]? = some e ∧ e.born = b ∧ e.key = kk.v L ∧ VR μ Z w' n v e.val := by
 have hall : ∀ e, e ∈ es.toList → ∃ L' : List Int, L'.length = kk.len ∧ e.key = kk.v L' := by
  intro e he
  obtain ⟨j, hj⟩ := List.getElem?_of_mem he
  have hjl : j < ms.length := by have := (List.getElem?_eq_some_iff.1 hj).1; rw [hm.len]; simpa using this
  obtain ⟨e', k1, k2, k3, k4⟩ := hm.at_ j _ _ _ (List.getElem?_eq_getElem hjl)
  rw [show es.toList[j]? = es[j]? by simp, k1] at hj
  cases hj
  exact ⟨_, hok _ (List.getElem_mem hjl), k3⟩
 have fin : ∀ r : Option (Nat × Value), ((r = none ∧ ∀ e, e ∈ es.toList → e.key ≠ kk.v L) ∨ ∃ (j : Nat) (e : MapEntry), r = some (j, e.val) ∧ es.toList[j]? = some e ∧ e.key = kk.v L ∧ ∀ (m : Nat) (e' : MapEntry), m < j → es.toList[m]? = some e' → e'.key ≠ kk.v L) →
   (Instr.findKey kt (kk.v L) es.toList).run P w = .ok r w → (midx ms L = none ∧ (Instr.findKey kt (kk.v L) es.toList).run P w = .ok none w) ∨
   ∃ (j : Nat) (b : Nat) (v : AV) (e : MapEntry), midx ms L = some j ∧ (Instr.findKey kt (kk.v L) es.toList).run P w = .ok (some (j, e.val)) w ∧ ms[j]? = some (b, L, v) ∧ es[j]? = some e ∧ e.born = b ∧ e.key = kk.v L ∧ VR μ Z w' n v e.val := by
  rintro r (⟨rfl, h2⟩ | ⟨j, e, rfl, h2, h3, h4⟩) hrun
  ·refine .inl ⟨?_, hrun⟩
   unfold midx
   rw [List.findIdx?_eq_none_iff]
   intro e he
   obtain ⟨j, hj⟩ := List.getElem?_of_mem he
   obtain ⟨e', k1, k2, k3, k4⟩ := hm.at_ j e.1 e.2.1 e.2.2 hj
   have := h2 e' (List.mem_of_getElem? (i := j) (by simpa using k1))
   rw [k3] at this
   simpa using fun q => this (by rw [q])
  ·have hjl : j < ms.length := by have := (List.getElem?_eq_some_iff.1 h2).1; rw [hm.len]; simpa using this
   obtain ⟨e', k1, k2, k3, k4⟩ := hm.at_ j _ _ _ (List.getElem?_eq_getElem hjl)
   have hee : e' = e := by rw [show es.toList[j]? = es[j]? by simp, k1] at h2; cases h2; rfl
   subst hee
   have hLL : ms[j].2.1 = L := KK.inj (hok _ (List.getElem_mem hjl)) hL (k3.symm.trans h3)
   refine .inr ⟨j, ms[j].1, ms[j].2.2, e', ?_, hrun, ?_, k1, k2, h3, k4⟩
   ·unfold midx
    rw [List.findIdx?_eq_some_iff_getElem]
    refine ⟨hjl, by simp [hLL], fun m hm2 => ?_⟩
    obtain ⟨e2, q1, q2, q3, q4⟩ := hm.at_ m _ _ _ (List.getElem?_eq_getElem (by omega : m < ms.length))
    have := h4 m e2 hm2 (by simpa using q1)
    rw [q3] at this
    simpa using fun q => this (congrArg kk.v q)
   ·rw [List.getElem?_eq_getElem hjl, ← hLL]
 unfold Instr.findKey at fin ⊢
 simp only [run_und hd, Sem.run_bind, Result.andThen_ok] at fin ⊢
 cases hf : Instr.findNow d (kk.v L) es.toList 0 with
 | some r =>
  rw [hf] at fin
  refine fin r ?_ (by simp)
  rcases findNow_spec _ _ _ hf with h | ⟨j, e, h1, h2, h3, h4⟩
  ·exact .inl h
  ·exact .inr ⟨j, e, by simpa using h1, h2, h3, h4⟩
 | none =>
  rw [hf] at fin
  rcases findAsking_spec (w := w) KL L hL es.toList 0 hall with ⟨h1, h2⟩ | ⟨j, e, h1, h2, h3, h4⟩
  ·exact fin none (.inl ⟨rfl, h2⟩) h1
  ·exact fin _ (.inr ⟨j, e, rfl, h2, h3, h4⟩) (by simpa using h1)

/-! ### what the operations come to -/
def okV (ok : Bool) (v : AV) (b : Bool) : AV := if ok then .tup [v, .bool b] else v
def mval (ms : List ME) (L : List Int) : Option AV := (midx ms L).bind fun j => (ms[j]?).map (·.2.2)
/-- a map's value at a key is set -/
def mput (ms : List ME) (clock : Nat) (L : List Int) (v : AV) : List ME × Nat :=
 match midx ms L with
 | some j => (ms.modify j fun e => (e.1, e.2.1, v), clock)
 | none => (ms ++ [(clock, L, v)], clock + 1)
def mdel (ms : List ME) (L : List Int) : List ME :=
 match midx ms L with
 | some j => ms.eraseIdx j
 | none => ms
/-- the value at a stamp is set -/
def mstamp (ms : List ME) (b : Nat) (v : AV) : Option (List ME) :=
 match ms.findIdx? (fun e => e.1 == b) with
 | some j => some (ms.modify j fun e => (e.1, e.2.1, v))
 | none => none

structure MTy (P : Program) (t : TypeId) (kk : KK) (z : AV) : Prop where
 ty : ∃ kt et te d, P.underlying t = some (.map kt et) ∧ P.underlying kt = some d ∧ KeyLw P kt kk ∧ tyA P et = some te ∧ te.zero = some z

def MMake (H : AHeap) (K : AV → AHeap → Prop) : Prop := K (.map (some H.length)) (H ++ [.map [] 0])
def MLook (P : Program) (t : TypeId) (m k : AV) (ok : Bool) (H : AHeap) (K : AV → AHeap → Prop) : Prop := ∃ kk z L, MTy P t kk z ∧ L.length = kk.len ∧ k = kk.a L ∧
 ((m = .map none ∧ K (okV ok z false) H) ∨ ∃ id ms clock, m = .map (some id) ∧ H[id]? = some (.map (mraw kk ms) clock) ∧ mOk kk ms ∧ K (okV ok ((mval ms L).getD z) (mval ms L).isSome) H)
def MUpd (P : Program) (t : TypeId) (m k x : AV) (H : AHeap) (K : AV → AHeap → Prop) : Prop := ∃ kk z L id ms clock, MTy P t kk z ∧ L.length = kk.len ∧ k = kk.a L ∧ m = .map (some id) ∧ H[id]? = some (.map (mraw kk ms) clock) ∧ mOk kk ms ∧
 K .undef (H.set id (.map (mraw kk (mput ms clock L x).1) (mput ms clock L x).2))
def MEnt (P : Program) (t : TypeId) (m k : AV) (H : AHeap) (K : AV → AHeap → Prop) : Prop := ∃ kk z L id ms clock, MTy P t kk z ∧ L.length = kk.len ∧ k = kk.a L ∧ m = .map (some id) ∧ H[id]? = some (.map (mraw kk ms) clock) ∧ mOk kk ms ∧
 ((∀ j, midx ms L = some j → ∀ b v, ms[j]? = some (b, L, v) → K (.tup [v, .int .i64 (b : Int)]) H) ∧ (midx ms L = none → K (.tup [z, .int .i64 (clock : Int)]) (H.set id (.map (mraw kk (ms ++ [(clock, L, z)])) (clock + 1)))))
def MSto (m s x : AV) (H : AHeap) (K : AV → AHeap → Prop) : Prop := ∃ kk id ms ms' clock b k, m = .map (some id) ∧ H[id]? = some (.map (mraw kk ms) clock) ∧ mOk kk ms ∧ s = .int k ((b : Nat) : Int) ∧ mstamp ms b x = some ms' ∧
 K .undef (H.set id (.map (mraw kk ms') clock))
def MRan (P : Program) (t : TypeId) (m : AV) (H : AHeap) (K : AV → AHeap → Prop) : Prop := (∃ kt et, P.underlying t = some (.map kt et)) ∧ ∃ id es clock, m = .map (some id) ∧ H[id]? = some (.map es clock) ∧ K (.ptr H.length 0) (H ++ [.iter id clock [] clock])
def MNxt (it : AV) (H : AHeap) (K : AV → AHeap → Prop) : Prop := ∃ i m ms kk clock seen, it = .ptr i 0 ∧ H[i]? = some (.iter m clock seen clock) ∧ H[m]? = some (.map (mraw kk ms) clock) ∧ mOk kk ms ∧ (∀ e, e ∈ ms → e.1 < clock) ∧
 (∀ e, e ∈ ms → e.1 ∉ seen → K (.tup [.bool true, kk.a e.2.1, e.2.2]) (H.set i (.iter m clock (seen ++ [e.1]) clock))) ∧ ((∀ e, e ∈ ms → e.1 ∈ seen) → K (.tup [.bool false]) H)
def MCur (it : AV) (H : AHeap) (K : AV → AHeap → Prop) : Prop := ∃ i m ms kk since clock seen b L v, it = .ptr i 0 ∧ H[i]? = some (.iter m since seen clock) ∧ seen.getLast? = some b ∧ H[m]? = some (.map (mraw kk ms) clock) ∧ mOk kk ms ∧
 ms.find? (fun e => e.1 == b) = some (b, L, v) ∧ K (.tup [kk.a L, v]) H
/-- What an operation on a map comes to. -/
def MOp (P : Program) (a : List AV) (H : AHeap) (op : Op) (K : AV → AHeap → Prop) : Prop :=
 match op with
 | .makeMap _ none => MMake H K
 | .lookup t m k ok => MLook P t (ev a m) (ev a k) ok H K
 | .mapUpdate t m k x => MUpd P t (ev a m) (ev a k) (ev a x) H K
 | .mapEntry t m k => MEnt P t (ev a m) (ev a k) H K
 | .entryStore _ m s x => MSto (ev a m) (ev a s) (ev a x) H K
 | .range t m => MRan P t (ev a m) H K
 | .next it false => MNxt (ev a it) H K
 | .entry it => MCur (ev a it) H K
 | _ => False
def DelQ (P : Program) (t : TypeId) (m k : AV) (H : AHeap) (K : AV → AHeap → Prop) : Prop :=
 ∃ kk z L id ms clock, MTy P t kk z ∧ L.length = kk.len ∧ k = kk.a L ∧ m = .map (some id) ∧ H[id]? = some (.map (mraw kk ms) clock) ∧ mOk kk ms ∧ K (.tup []) (H.set id (.map (mraw kk (mdel ms L)) clock))

/-! ### the rules hold -/
theorem setMap (hR : R B w0 μ Z H w) {id : Nat} {kk : KK} {o : AObj} {es0 : Array MapEntry} {c0 : Nat} (hid : H[id]? = some o) (ha : o.alive = true) (hblk : w.heap[(μ id).1]? = some (.map es0 c0)) {ms' : List ME} {es' : Array MapEntry} {clock' : Nat} (hm : MR μ Z w H.length kk ms' es') :
  R B w0 μ Z (H.set id (.map (mraw kk ms') clock')) { w with heap := w.heap.setIfInBounds (μ id).1 (.map es' clock') } ∧ Ev μ Z H w μ Z (H.set id (.map (mraw kk ms') clock')) { w with heap := w.heap.setIfInBounds (μ id).1 (.map es' clock') } := by
 have hlt := hR.lt hid ha
 have hnew : ({ w with heap := w.heap.setIfInBounds (μ id).1 (.map es' clock') } : World).heap[(μ id).1]? = some (.map es' clock') := by simp [hlt]
 have hoth : ∀ k, k < w.heap.size → k ≠ (μ id).1 → ({ w with heap := w.heap.setIfInBounds (μ id).1 (.map es' clock') } : World).heap[k]? = w.heap[k]? := by
  intro k _ hk
  simp [Array.getElem?_setIfInBounds, Ne.symm hk]
 have hzc : ∀ c o, Z c o → ({ w with heap := w.heap.setIfInBounds (μ id).1 (.map es' clock') } : World).cell? ⟨c, o, none⟩ = w.cell? ⟨c, o, none⟩ := by
  intro c o hz
  by_cases hc : c = (μ id).1
  ·subst hc
   simp only [World.cell?, hnew, hblk]
  ·exact World.cell?_of_block (a := ⟨c, o, none⟩) (hoth c (hR.zlt c o hz) hc)
 refine hR.change hid ha hoth (by simp) rfl rfl rfl hzc ?_ ?_
 ·simp only [World.shape?, hnew, hblk]
 ·intro hz hs
  refine ⟨hR.base hid ha, es', hnew, by simpa [mraw] using hm.len, fun j b k v hj => ?_⟩
  simp only [mraw, List.getElem?_map, Option.map_eq_some_iff] at hj
  obtain ⟨⟨b', L, v'⟩, hj, e⟩ := hj
  cases e
  obtain ⟨e, k1, k2, k3, k4⟩ := hm.at_ j b' L v' hj
  refine ⟨e, k1, k2, ?_, k4.mono (Nat.le_refl _) (fun _ _ => rfl) (fun _ _ h => h) hz hs⟩
  rw [k3]
  exact KK.vr' kk L

theorem MR.modify {kk : KK} {ms : List ME} {es : Array MapEntry} (hm : MR μ Z w n kk ms es) (j : Nat) {f : MapEntry → MapEntry} {v : AV} {cv : Value} (hf : ∀ e, (f e).born = e.born ∧ (f e).val = cv) (hk : ∀ (e : MapEntry), es[j]? = some e → (f e).key = e.key) (hv : VR μ Z w n v cv) :
  MR μ Z w n kk (ms.modify j fun e => (e.1, e.2.1, v)) (es.modify j f) := by
 refine ⟨by simp [hm.len], fun i b L u hi => ?_⟩
 rw [List.getElem?_modify] at hi
 obtain ⟨⟨b0, L0, v0⟩, h1, h2⟩ := Option.map_eq_some_iff.1 hi
 obtain ⟨e, k1, k2, k3, k4⟩ := hm.at_ i b0 L0 v0 h1
 by_cases hij : j = i
 ·subst hij
  simp only [if_true] at h2
  cases h2
  exact ⟨f e, by simp [Array.getElem?_modify, k1], by rw [(hf e).1, k2], by rw [hk e k1, k3], by rw [(hf e).2]; exact hv⟩
 ·simp only [hij, if_false, id] at h2
  cases h2
  exact ⟨e, by simp [Array.getElem?_modify, k1, hij], k2, k3, k4⟩
theorem MR.push {kk : KK} {ms : List ME} {es : Array MapEntry} (hm : MR μ Z w n kk ms es) (b : Nat) (L : List Int) {v : AV} {cv : Value} (hv : VR μ Z w n v cv) :
  MR μ Z w n kk (ms ++ [(b, L, v)]) (es.push { key := kk.v L, val := cv, born := b }) := by
 refine ⟨by simp [hm.len], fun i b' L' u hi => ?_⟩
 by_cases hlt : i < ms.length
 ·rw [List.getElem?_append_left hlt] at hi
  obtain ⟨e, k1, k2⟩ := hm.at_ i b' L' u hi
  have : i < es.size := by rw [← hm.len]; exact hlt
  exact ⟨e, by rw [Array.getElem?_push, if_neg (by omega)]; exact k1, k2⟩
 ·rw [List.getElem?_append_right (by omega)] at hi
  have hi0 : i = ms.length := by
   have := (List.getElem?_eq_some_iff.1 hi).1
   simp at this; omega
  subst hi0
  simp at hi
  obtain ⟨rfl, rfl, rfl⟩ := hi
  exact ⟨_, by rw [Array.getElem?_push, if_pos hm.len], rfl, rfl, hv⟩
theorem MR.erase {kk : KK} {ms : List ME} {es : Array MapEntry} (hm : MR μ Z w n kk ms es) (j : Nat) : MR μ Z w n kk (ms.eraseIdx j) (es.eraseIdxIfInBounds j) := by
 have hl : (es.eraseIdxIfInBounds j).toList = es.toList.eraseIdx j := by simp
 have hg : ∀ i : Nat, (es.eraseIdxIfInBounds j)[i]? = (es.toList.eraseIdx j)[i]? := by
  intro i; rw [← hl]; exact Array.getElem?_toList.symm
 refine ⟨?_, fun i b L u hi => ?_⟩
 ·rw [← Array.length_toList, hl, List.length_eraseIdx, List.length_eraseIdx, hm.len, Array.length_toList]
 ·rw [List.getElem?_eraseIdx] at hi
  rw [hg, List.getElem?_eraseIdx]
  split at hi
  ·obtain ⟨e, k1, k2⟩ := hm.at_ i b L u hi
   rename_i hij
   exact ⟨e, by rw [if_pos hij]; simpa using k1, k2⟩
  ·obtain ⟨e, k1, k2⟩ := hm.at_ (i + 1) b L u hi
   rename_i hij
   exact ⟨e, by rw [if_neg hij]; simpa using k1, k2⟩
theorem mOk.put {kk : KK} {ms : List ME} {c : Nat} {L : List Int} {v : AV} (h : mOk kk ms) (hL : L.length = kk.len) : mOk kk (mput ms c L v).1 := by
 unfold mput
 split
 ·intro e he
  obtain ⟨i, hi⟩ := List.getElem?_of_mem he
  simp only [List.getElem?_modify] at hi
  obtain ⟨e0, h1, h2⟩ := Option.map_eq_some_iff.1 hi
  have := h e0 (List.mem_of_getElem? h1)
  split at h2 <;> (subst h2; exact this)
 ·intro e he
  rcases List.mem_append.1 he with he | he
  ·exact h e he
  ·simp at he; subst he; exact hL

theorem sure_keyStays {kt : TypeId} {kk : KK} (KL : KeyLw P kt kk) (L : List Int) : (Instr.keyThatStays (kk.v L) (kk.v L)).run P w = .ok (kk.v L) w := by
 simp [Instr.keyThatStays, KL.stays L]

/-- what an operation on a map may lead to -/
def MLands (P : Program) (B : Nat) (w0 : World) (μ : Nat → Nat × Nat) (Z : Nat → Nat → Prop) (H : AHeap) (w : World) (K : AV → AHeap → Prop) (r : Result Next) : Prop :=
 ∃ v cv μ' Z' H' w', (r = .ok (.value cv) w' ∨ (r = .ok .skip w' ∧ cv = undef)) ∧ R B w0 μ' Z' H' w' ∧ VR μ' Z' w' H'.length v cv ∧ Ev μ Z H w μ' Z' H' w' ∧ K v H'

theorem VR.tup2 {x y : AV} {cx cy : Value} (h1 : VR μ Z w n x cx) (h2 : VR μ Z w n y cy) : VR μ Z w n (.tup [x, y]) (.tuple #[cx, cy]) := by
 refine .tup _ _ rfl (fun j => if j = 0 then cx else cy) (fun j v hj => ?_) (fun j v hj => ?_)
 ·match j with
  | 0 => simp
  | 1 => simp
  | j + 2 => simp at hj
 ·match j with
  | 0 => simp at hj; subst hj; simpa using h1
  | 1 => simp at hj; subst hj; simpa using h2
  | j + 2 => simp at hj
theorem VR.tup3 {x y z : AV} {cx cy cz : Value} (h1 : VR μ Z w n x cx) (h2 : VR μ Z w n y cy) (h3 : VR μ Z w n z cz) : VR μ Z w n (.tup [x, y, z]) (.tuple #[cx, cy, cz]) := by
 refine .tup _ _ rfl (fun j => if j = 0 then cx else if j = 1 then cy else cz) (fun j v hj => ?_) (fun j v hj => ?_)
 ·match j with
  | 0 => simp
  | 1 => simp
  | 2 => simp
  | j + 3 => simp at hj
 ·match j with
  | 0 => simp at hj; subst hj; simpa using h1
  | 1 => simp at hj; subst hj; simpa using h2
  | 2 => simp at hj; subst hj; simpa using h3
  | j + 3 => simp at hj
theorem VR.tup1 {x : AV} {cx : Value} (h1 : VR μ Z w n x cx) : VR μ Z w n (.tup [x]) (.tuple #[cx]) := by
 refine .tup _ _ rfl (fun _ => cx) (fun j v hj => ?_) (fun j v hj => ?_)
 ·match j with
  | 0 => simp
  | j + 1 => simp at hj
 ·match j with
  | 0 => simp at hj; subst hj; simpa using h1
  | j + 1 => simp at hj
theorem VR.tup0 : VR μ Z w n (.tup []) (.tuple #[]) := .tup [] #[] rfl (fun _ => default) (fun j v hj => by simp at hj) (fun j v hj => by simp at hj)

theorem mop_sound {ρ : Operand → Value} {o : Oper} {K : AV → AHeap → Prop} (h : MOp P a H o.op K) (hR : R B w0 μ Z H w) (he : ∀ x, VR μ Z w H.length (ev a x) (ρ x)) :
  MLands P B w0 μ Z H w K ((execOp ρ o).run P w) := by
 unfold MOp at h
 split at h
 ·-- makeMap
  rename_i t ho
  have hpush := hR.push (.map [] 0) (.map #[] 0) rfl (by
   intro μ' hm hee
   refine ⟨by rw [hee]; exact hR.hB, #[], by rw [hee]; exact heap_alloc_new w _, rfl, fun j b k v hj => by simp at hj⟩)
  refine ⟨_, .map (some w.heap.size), _, _, _, _, .inl ?_, hpush.1, ?_, hpush.2, h⟩
  ·simp [execOp, ho, Instr.makeMap]
  ·have := VR.map (μ := ext μ H.length (w.heap.size, 0)) (Z := Z) (w := w.alloc (.map #[] 0)) (n := H.length + 1) H.length (by omega)
   rw [ext_eq] at this
   simpa using this
 ·-- lookup
  rename_i t om ok_ ok ho
  obtain ⟨kk, z, L, ⟨kt, et, te, d, h1, h2, KL, h3, h4⟩, hL, hk, h⟩ := h
  obtain ⟨inf, zv, k1, k2, k3, k4⟩ := zero_some (w := w) h3 h4
  have hkv := he ok_
  rw [hk] at hkv
  have hkc := KK.vr hL hkv
  have hm := he om
  have zvr : VR μ Z w H.length z zv := by rw [k3]; exact VR.ofVal zv
  have fin : ∀ (v : AV) (cv : Value) (b : Bool), VR μ Z w H.length v cv → K (okV ok v b) H → (Instr.lookup t (ρ om) (ρ ok_) ok).run P w = .ok (if ok then .tuple #[cv, .bool b] else cv) w → MLands P B w0 μ Z H w K ((execOp ρ o).run P w) := by
   intro v cv b hv hK hrun
   refine ⟨okV ok v b, if ok then .tuple #[cv, .bool b] else cv, μ, Z, H, w, .inl ?_, hR, ?_, Ev.refl μ Z H w, hK⟩
   ·simp only [execOp, ho, Sem.run_bind, hrun, Result.andThen_ok, Sem.run_pure]
   ·cases ok
    ·exact hv
    ·exact hv.tup2 (.bool b)
  rcases h with ⟨e1, hK⟩ | ⟨id, ms, clock, e1, hid, hok, hK⟩
  ·rw [e1] at hm
   generalize hcm : ρ om = cm at hm
   cases hm
   refine fin z zv false zvr hK ?_
   have hf : (Instr.findKey kt (kk.v L) []).run P w = .ok none w := by
    simp [Instr.findKey, run_und h2, Instr.findNow]
   have hchk := KL.check true L w hL
   simp [Instr.lookup, run_und h1, hcm, hkc, hchk, hf, k4]
  ·rw [e1] at hm
   generalize hcm : ρ om = cm at hm
   cases hm
   obtain ⟨hb, es, hblk, hMR⟩ := MR.of hR hid hok
   have hchk := KL.check es.isEmpty L w hL
   rcases findKey_run (w := w) h2 KL hL hMR hok with ⟨g1, g2⟩ | ⟨j, b, v, e, g1, g2, g3, g4, g5, g6, g7⟩
   ·have e2 : mval ms L = none := by unfold mval; rw [g1]; rfl
    rw [e2] at hK
    refine fin z zv false zvr hK ?_
    simp only [Instr.lookup, run_und h1, hcm, hkc, run_getObjMap hblk, Sem.run_bind, Result.andThen_ok, Sem.run_pure, hchk, g2, k4]
   ·have e2 : mval ms L = some v := by unfold mval; rw [g1]; simp [g3]
    rw [e2] at hK
    refine fin v e.val true g7 hK ?_
    simp only [Instr.lookup, run_und h1, hcm, hkc, run_getObjMap hblk, Sem.run_bind, Result.andThen_ok, Sem.run_pure, hchk, g2]
 ·-- mapUpdate
  rename_i t om ok_ ox ho
  obtain ⟨kk, z, L, id, ms, clock, ⟨kt, et, te, d, h1, h2, KL, h3, h4⟩, hL, hk, e1, hid, hok, hK⟩ := h
  have hkv := he ok_
  rw [hk] at hkv
  have hkc := KK.vr hL hkv
  have hm := he om
  rw [e1] at hm
  generalize hcm : ρ om = cm at hm
  cases hm
  obtain ⟨hb, es, hblk, hMR⟩ := MR.of hR hid hok
  have hchk := KL.check false L w hL
  rcases findKey_run (w := w) h2 KL hL hMR hok with ⟨g1, g2⟩ | ⟨j, b, v, e, g1, g2, g3, g4, g5, g6, g7⟩
  ·have e2 : mput ms clock L (ev a ox) = (ms ++ [(clock, L, ev a ox)], clock + 1) := by unfold mput; rw [g1]
   rw [e2] at hK
   obtain ⟨r1, r2⟩ := setMap (clock' := clock + 1) hR hid rfl hblk (hMR.push clock L (he ox))
   refine ⟨.undef, undef, μ, Z, _, _, .inr ⟨?_, rfl⟩, r1, .undef _, r2, hK⟩
   simp only [execOp, ho, Instr.mapUpdate, run_und h1, hcm, hkc, run_getObjMap hblk, Sem.run_bind, Result.andThen_ok, Sem.run_pure, hchk, g2, run_setObjMap hblk]
  ·have e2 : mput ms clock L (ev a ox) = (ms.modify j (fun e => (e.1, e.2.1, ev a ox)), clock) := by unfold mput; rw [g1]
   rw [e2] at hK
   obtain ⟨r1, r2⟩ := setMap (clock' := clock) hR hid rfl hblk (hMR.modify j (f := fun e => { e with key := kk.v L, val := ρ ox }) (fun e => ⟨rfl, rfl⟩) (fun e' q => by rw [g4] at q; cases q; exact g6.symm) (he ox))
   refine ⟨.undef, undef, μ, Z, _, _, .inr ⟨?_, rfl⟩, r1, .undef _, r2, hK⟩
   have hst := sure_keyStays (w := w) KL L
   simp only [execOp, ho, Instr.mapUpdate, run_und h1, hcm, hkc, run_getObjMap hblk, Sem.run_bind, Result.andThen_ok, Sem.run_pure, hchk, g2, g4, Option.map_some, Option.getD_some, g6, hst, run_setObjMap hblk]
 ·-- mapEntry
  rename_i t om ok_ ho
  obtain ⟨kk, z, L, id, ms, clock, ⟨kt, et, te, d, h1, h2, KL, h3, h4⟩, hL, hk, e1, hid, hok, hK1, hK2⟩ := h
  obtain ⟨inf, zv, k1, k2, k3, k4⟩ := zero_some (w := w) h3 h4
  have zvr : VR μ Z w H.length z zv := by rw [k3]; exact VR.ofVal zv
  have hkv := he ok_
  rw [hk] at hkv
  have hkc := KK.vr hL hkv
  have hm := he om
  rw [e1] at hm
  generalize hcm : ρ om = cm at hm
  cases hm
  obtain ⟨hb, es, hblk, hMR⟩ := MR.of hR hid hok
  have hchk := KL.check false L w hL
  rcases findKey_run (w := w) h2 KL hL hMR hok with ⟨g1, g2⟩ | ⟨j, b, v, e, g1, g2, g3, g4, g5, g6, g7⟩
  ·obtain ⟨r1, r2⟩ := setMap (clock' := clock + 1) hR hid rfl hblk (hMR.push clock L zvr)
   refine ⟨_, .tuple #[zv, goInt clock], μ, Z, _, _, .inl ?_, r1, ?_, r2, hK2 g1⟩
   ·simp only [execOp, ho, Instr.mapEntry, run_und h1, hcm, hkc, run_getObjMap hblk, Sem.run_bind, Result.andThen_ok, Sem.run_pure, hchk, g2, run_setObjMap hblk, k4]
   ·exact (zvr.ev r2).tup2 (.int _ _)
  ·have hmod : es.modify j (fun e => { e with key := kk.v L }) = es := by
    apply Array.ext_getElem?
    intro i
    rw [Array.getElem?_modify]
    by_cases hij : j = i
    ·subst hij
     simp only [if_true, g4, Option.map_some]
     rw [← g6]
    ·simp [hij]
   have hsame : ({ w with heap := w.heap.setIfInBounds (μ id).1 (.map es clock) } : World) = w := by
    have : w.heap.setIfInBounds (μ id).1 (.map es clock) = w.heap := by
     apply Array.ext_getElem?
     intro i
     rw [Array.getElem?_setIfInBounds]
     by_cases hij : (μ id).1 = i
     ·subst hij
      have hlt := hR.lt hid rfl
      have hb2 := hblk
      rw [Array.getElem?_eq_getElem hlt] at hb2 ⊢
      simp [hlt, Option.some.inj hb2]
     ·simp [hij]
    rw [this]
   refine ⟨_, .tuple #[e.val, goInt b], μ, Z, H, w, .inl ?_, hR, ?_, Ev.refl μ Z H w, hK1 j g1 b v g3⟩
   ·have hst := sure_keyStays (w := w) KL L
    simp only [execOp, ho, Instr.mapEntry, run_und h1, hcm, hkc, run_getObjMap hblk, Sem.run_bind, Result.andThen_ok, Sem.run_pure, hchk, g2, g4, Option.map_some, Option.getD_some, g6, hst, run_setObjMap hblk, hmod, hsame, g5]
   ·exact g7.tup2 (.int _ _)
 ·-- entryStore
  rename_i t om os ox ho
  obtain ⟨kk, id, ms, ms', clock, b, k, e1, hid, hok, hs, hst, hK⟩ := h
  have hm := he om
  rw [e1] at hm
  generalize hcm : ρ om = cm at hm
  cases hm
  have hsv := he os
  rw [hs] at hsv
  generalize hcs : ρ os = cs at hsv
  cases hsv
  obtain ⟨hb, es, hblk, hMR⟩ := MR.of hR hid hok
  unfold mstamp at hst
  split at hst
  ·rename_i j hj
   cases hst
   obtain ⟨hjl, hj1, hj2⟩ := List.findIdx?_eq_some_iff_getElem.1 hj
   have hfi : es.findIdx? (fun e => ((e.born : Nat) : Int) == ((b : Nat) : Int)) = some j := by
    rw [Array.findIdx?_eq_some_iff_getElem]
    refine ⟨by rw [← hMR.len]; exact hjl, ?_, fun i hi => ?_⟩
    ·obtain ⟨e, q1, q2, _⟩ := hMR.at_ j _ _ _ (List.getElem?_eq_getElem hjl)
     have hjs : j < es.size := by rw [← hMR.len]; exact hjl
     rw [Array.getElem?_eq_getElem hjs] at q1
     cases q1
     rw [q2]
     simp only [beq_iff_eq] at hj1 ⊢
     rw [List.get_eq_getElem, hj1]
    ·have hil : i < ms.length := by omega
     obtain ⟨e, q1, q2, _⟩ := hMR.at_ i _ _ _ (List.getElem?_eq_getElem hil)
     have his : i < es.size := by rw [← hMR.len]; exact hil
     rw [Array.getElem?_eq_getElem his] at q1
     cases q1
     rw [q2, List.get_eq_getElem]
     have := hj2 i hi
     simp only [beq_iff_eq] at this ⊢
     omega
   obtain ⟨r1, r2⟩ := setMap (clock' := clock) hR hid rfl hblk (hMR.modify j (f := fun e => { e with val := ρ ox }) (fun e => ⟨rfl, rfl⟩) (fun e' q => rfl) (he ox))
   refine ⟨.undef, undef, μ, Z, _, _, .inr ⟨?_, rfl⟩, r1, .undef _, r2, hK⟩
   have hasi : (asInt (.int k ((b : Nat) : Int))).run P w = .ok ((b : Nat) : Int) w := by simp [asInt, asIntOf]
   simp only [execOp, ho, Instr.entryStore, hcm, hcs, run_getObjMap hblk, hasi, Sem.run_bind, Result.andThen_ok, Sem.run_pure, hfi, run_setObjMap hblk]
  ·cases hst
 ·-- range
  rename_i t om ho
  obtain ⟨⟨kt, et, h1⟩, id, es, clock, e1, hid, hK⟩ := h
  have hm := he om
  rw [e1] at hm
  generalize hcm : ρ om = cm at hm
  cases hm
  rename_i hidl
  obtain ⟨hb, mes, hblk, hlen, hes⟩ := hR.obj id _ hid
  have hpush := hR.push (.iter id clock [] clock) (.mapIter (some (μ id).1) clock #[] clock) rfl (by
   intro μ' hm hee
   refine ⟨by rw [hee]; exact hR.hB, by rw [hee], by omega, ?_⟩
   rw [hee, hm id hidl]; exact heap_alloc_new w _)
  refine ⟨_, .pointer (some ⟨w.heap.size, 0, none⟩), _, _, _, _, .inl ?_, hpush.1, ?_, hpush.2, hK⟩
  ·simp only [execOp, ho, Instr.range, run_und h1, hcm, run_getObjMap hblk, Sem.run_bind, Result.andThen_ok, Sem.run_pure]
   simp
  ·rw [List.length_append]; exact new_ptr
 ·-- next
  rename_i oi ho
  obtain ⟨i, m, ms, kk, clock, seen, e1, hi, hm, hok, hborn, hK1, hK2⟩ := h
  have hit := he oi
  rw [e1] at hit
  generalize hci : ρ oi = ci at hit
  cases hit
  obtain ⟨hbi, hoff, hml, hiblk⟩ := hR.obj i _ hi
  obtain ⟨hb, es, hblk, hMR⟩ := MR.of hR hm hok
  rw [hoff, Nat.zero_add] at hci
  have hgi : (getObj (μ i).1).run P w = .ok (.mapIter (some (μ m).1) clock seen.toArray clock) w := by
   simp only [getObj, Sem.run, hiblk]
  have hbornE : ∀ e, e ∈ es.toList → e.born < clock := by
   intro e hee
   obtain ⟨j, hj⟩ := List.getElem?_of_mem hee
   have hjs : j < es.size := by simpa using (List.getElem?_eq_some_iff.1 hj).1
   have hjl : j < ms.length := by rw [hMR.len]; exact hjs
   obtain ⟨e', q1, q2, _⟩ := hMR.at_ j _ _ _ (List.getElem?_eq_getElem hjl)
   rw [show es.toList[j]? = es[j]? by simp, q1] at hj
   cases hj
   rw [q2]
   exact hborn _ (List.getElem_mem hjl)
  have hcond : (!seen.toArray.isEmpty && !es.isEmpty && es.all (fun e => decide (e.born ≥ clock))) = false := by
   cases hemp : es.isEmpty
   ·have hpos : 0 < es.size := by
     rcases Nat.eq_zero_or_pos es.size with h0 | h0
     ·simp [Array.isEmpty, h0] at hemp
     ·exact h0
    have : es.all (fun e => decide (e.born ≥ clock)) = false := by
     rw [Array.all_eq_false]
     refine ⟨0, hpos, ?_⟩
     have := hbornE es[0] (by simp)
     simp; omega
    rw [this]; simp
   ·simp
  generalize hleft : (es.filter fun e => !seen.toArray.contains e.born) = left
  have hmemL : ∀ e, e ∈ left.toList ↔ e ∈ es.toList ∧ e.born ∉ seen := by
   intro e
   rw [← hleft]
   simp
  have hold : (left.filter fun e => decide (e.born < clock)) = left := by
   rw [Array.filter_eq_self]
   intro e hee
   have := ((hmemL e).1 (by simpa using hee)).1
   simpa using hbornE e this
  have hnew : (left.filter fun e => decide (e.born ≥ clock)) = #[] := by
   rw [Array.filter_eq_empty_iff]
   intro e hee
   have := hbornE e ((hmemL e).1 (by simpa using hee)).1
   simp; omega
  by_cases hemp : left = #[]
  ·refine ⟨_, .tuple #[.bool false], μ, Z, H, w, .inl ?_, hR, VR.tup1 (.bool _), Ev.refl μ Z H w, hK2 ?_⟩
   ·simp only [execOp, ho, Instr.next, hci, hgi, run_getObjMap hblk, Sem.run_bind, Result.andThen_ok, Sem.run_pure, hcond, hleft, hold, hnew, hemp]
    simp [Question.forced]
   ·intro e hee
    obtain ⟨j, hj⟩ := List.getElem?_of_mem hee
    obtain ⟨e', q1, q2, _⟩ := hMR.at_ j e.1 e.2.1 e.2.2 hj
    refine Classical.byContradiction fun hn => ?_
    have : e' ∈ left.toList := (hmemL e').2 ⟨List.mem_of_getElem? (i := j) (by simpa using q1), by rw [q2]; exact hn⟩
    rw [hemp] at this
    simp at this
  ·have hpos : 0 < left.size := by
    rcases Nat.eq_zero_or_pos left.size with h0 | h0
    ·exact absurd (Array.eq_empty_of_size_eq_zero h0) hemp
    ·exact h0
   have hne : left.isEmpty = false := by simp [Array.isEmpty]; omega
   obtain ⟨r, w1, hch, hr, hw1⟩ : ∃ r w1, (choose (.mapNext left.size)).run P w = .ok r w1 ∧ r < left.size ∧ (w1 = w ∨ w1 = w.drew) := by
    by_cases hf : (Question.mapNext left.size).forced = true
    ·exact ⟨0, w, by simp [choose, Sem.run, hf], hpos, .inl rfl⟩
    ·refine ⟨_, w.drew, ?_, Nat.mod_lt (w.tape w.drawn (.mapNext left.size)) hpos, .inr rfl⟩
     simp only [choose, Sem.run, if_neg hf]
     rfl
   have hR1 : R B w0 μ Z H w1 := by rcases hw1 with rfl | rfl <;> first | exact hR | exact hR.drew
   have hE1 : Ev μ Z H w μ Z H w1 := by rcases hw1 with rfl | rfl <;> first | exact Ev.refl μ Z H _ | exact Ev.drew
   have hiblk1 : w1.heap[(μ i).1]? = some (.mapIter (some (μ m).1) clock seen.toArray clock) := by rcases hw1 with rfl | rfl <;> exact hiblk
   have hel := (hmemL left[r]).1 (by simp)
   obtain ⟨j, hj⟩ := List.getElem?_of_mem hel.1
   have hjs : j < es.size := by simpa using (List.getElem?_eq_some_iff.1 hj).1
   have hjl : j < ms.length := by rw [hMR.len]; exact hjs
   obtain ⟨e', q1, q2, q3, q4⟩ := hMR.at_ j _ _ _ (List.getElem?_eq_getElem hjl)
   have hee : e' = left[r] := by rw [show es.toList[j]? = es[j]? by simp, q1] at hj; cases hj; rfl
   have hch' := hR1.change (id := i) (o' := .iter m clock (seen ++ [ms[j].1]) clock) (w' := { w1 with heap := w1.heap.setIfInBounds (μ i).1 (.mapIter (some (μ m).1) clock (seen.toArray.push left[r].born) clock) }) hi rfl
    (fun k _ hk => by simp [Array.getElem?_setIfInBounds, Ne.symm hk]) (by simp) rfl rfl rfl
    (fun c o hz => by
     by_cases hc : c = (μ i).1
     ·subst hc
      have hlt := hR1.lt hi rfl
      simp only [World.cell?, hiblk1]
      simp [hlt]
     ·exact World.cell?_of_block (a := ⟨c, o, none⟩) (by simp [Array.getElem?_setIfInBounds, Ne.symm hc]))
    (by
     have hlt := hR1.lt hi rfl
     simp only [World.shape?, hiblk1]
     simp [hlt])
    (fun _ _ => ⟨hbi, hoff, hml, by
     have hlt := hR1.lt hi rfl
     simp only [← hee, q2]
     simp [hlt]⟩)
   refine ⟨_, .tuple #[.bool true, left[r].key, left[r].val], μ, Z, _, _, .inl ?_, hch'.1, ?_, hE1.trans hch'.2, hK1 ms[j] (List.getElem_mem hjl) (by have hq := hel.2; rw [← hee, q2] at hq; exact hq)⟩
   ·have hg : ((if left.isEmpty = true then #[none] else #[]) ++ Array.map some (left ++ #[]))[r]? = some (some left[r]) := by
     simp [hne, hr]
    have hsz : ((if left.isEmpty = true then #[none] else #[]) ++ Array.map some (left ++ #[])).size = left.size := by simp [hne]
    have hset : ∀ ob, (setObj (μ i).1 ob).run P w1 = .ok () { w1 with heap := w1.heap.setIfInBounds (μ i).1 ob } := by
     intro ob; simp only [setObj, Sem.run, hiblk1]
    simp only [execOp, ho, Instr.next, hci, hgi, run_getObjMap hblk, Sem.run_bind, Result.andThen_ok, Sem.run_pure, hcond, hleft, hold, hnew, hsz, hch, hg, hset, Bool.false_eq_true, if_false]
   ·have hkv : VR μ Z w H.length (kk.a ms[j].2.1) left[r].key := by rw [← hee, q3]; exact KK.vr' _ _
    rw [hee] at q4
    exact (VR.tup3 (.bool true) hkv q4).ev (hE1.trans hch'.2)
 ·-- entry
  rename_i oi ho
  obtain ⟨i, m, ms, kk, since, clock, seen, b, L, v, e1, hi, hseen, hm, hok, hf, hK⟩ := h
  have hit := he oi
  rw [e1] at hit
  generalize hci : ρ oi = ci at hit
  cases hit
  obtain ⟨hbi, hoff, hml, hiblk⟩ := hR.obj i _ hi
  obtain ⟨hb, es, hblk, hMR⟩ := MR.of hR hm hok
  rw [hoff, Nat.zero_add] at hci
  have hgi : (getObj (μ i).1).run P w = .ok (.mapIter (some (μ m).1) since seen.toArray clock) w := by
   simp only [getObj, Sem.run, hiblk]
  have hback : seen.toArray.back? = some b := by simpa using hseen
  obtain ⟨hb1, as, bs, hsplit, hno⟩ := List.find?_eq_some_iff_append.1 hf
  have hj : ms[as.length]? = some (b, L, v) := by rw [hsplit]; simp
  obtain ⟨e, q1, q2, q3, q4⟩ := hMR.at_ _ b L v hj
  have hfe : es.find? (fun x => x.born == b) = some e := by
   rw [← Array.find?_toList, List.find?_eq_some_iff_append]
   have hjs : as.length < es.toList.length := by
    have := (Array.getElem?_eq_some_iff.1 q1).1; simpa using this
   refine ⟨by simpa using q2, es.toList.take as.length, es.toList.drop (as.length + 1), ?_, ?_⟩
   ·have hge : es.toList[as.length] = e := by
     have := (Array.getElem?_eq_some_iff.1 q1).2; simpa using this
    rw [← hge, ← List.drop_eq_getElem_cons hjs, List.take_append_drop]
   ·intro x hx
    obtain ⟨k, hk⟩ := List.getElem?_of_mem hx
    have hkl : k < as.length := by have := (List.getElem?_eq_some_iff.1 hk).1; simp at this; omega
    have hkm : ms[k]? = some as[k] := by rw [hsplit, List.getElem?_append_left hkl]; simp [hkl]
    obtain ⟨e2, r1, r2, _⟩ := hMR.at_ k as[k].1 as[k].2.1 as[k].2.2 hkm
    rw [List.getElem?_take_of_lt hkl] at hk
    have : e2 = x := by rw [show es.toList[k]? = es[k]? by simp, r1] at hk; cases hk; rfl
    subst this
    have := hno as[k] (List.getElem_mem hkl)
    simpa [r2] using this
  refine ⟨_, .tuple #[e.key, e.val], μ, Z, H, w, .inl ?_, hR, ?_, Ev.refl μ Z H w, hK⟩
  ·simp only [execOp, ho, Instr.entry, hci, hgi, hback, run_getObjMap hblk, Sem.run_bind, Result.andThen_ok, Sem.run_pure, hfe]
   simp
  ·have hkv : VR μ Z w H.length (kk.a L) e.key := by rw [q3]; exact KK.vr' _ _
   exact hkv.tup2 q4
 ·exact h.elim

theorem del_sound {K : AV → AHeap → Prop} (h : DelQ P t x y H K) (hR : R B w0 μ Z H w) (hx : VR μ Z w H.length x cx) (hy : VR μ Z w H.length y cy) :
  ∃ cv w' v H', (Builtin.delete_ #[t, t2] ty #[cx, cy]).run P w = .ok cv w' ∧ R B w0 μ Z H' w' ∧ VR μ Z w' H'.length v cv ∧ Ev μ Z H w μ Z H' w' ∧ K v H' := by
 obtain ⟨kk, z, L, id, ms, clock, ⟨kt, et, te, d, h1, h2, KL, h3, h4⟩, hL, rfl, rfl, hid, hok, hK⟩ := h
 have hkc := KK.vr hL hy
 subst hkc
 cases hx
 obtain ⟨hb, es, hblk, hMR⟩ := MR.of hR hid hok
 have hchk := KL.check es.isEmpty L w hL
 rcases findKey_run (w := w) h2 KL hL hMR hok with ⟨g1, g2⟩ | ⟨j, b, v, e, g1, g2, g3, g4, g5, g6, g7⟩
 ·have e2 : mdel ms L = ms := by unfold mdel; rw [g1]
  rw [e2] at hK
  obtain ⟨r1, r2⟩ := setMap (clock' := clock) hR hid rfl hblk hMR
  refine ⟨.tuple #[], _, .tup [], _, ?_, r1, .tup0, r2, hK⟩
  simp [Builtin.delete_, run_und h1, run_getObjMap hblk, hchk, g2, run_setObjMap hblk]
 ·have e2 : mdel ms L = ms.eraseIdx j := by unfold mdel; rw [g1]
  rw [e2] at hK
  obtain ⟨r1, r2⟩ := setMap (clock' := clock) hR hid rfl hblk (hMR.erase j)
  refine ⟨.tuple #[], _, .tup [], _, ?_, r1, .tup0, r2, hK⟩
  simp [Builtin.delete_, run_und h1, run_getObjMap hblk, hchk, g2, run_setObjMap hblk]

/-! ### copy -/
def CpyQ (P : Program) (t t2 : TypeId) (x y : AV) (H : AHeap) (K : AV → AHeap → Prop) : Prop :=
 ∃ ti e te i2 e2 ys, tyA P t = some ti ∧ ti.kind = .slice e ∧ tyA P e = some te ∧ tyA P t2 = some i2 ∧ i2.kind = .slice e2 ∧ SrcP P H te.size t2 y ys ∧ (∀ v, v ∈ flat ys → AV.one v = true) ∧
  ((∃ sz tl, x = .dl sz [] tl ∧ K (.int .i64 0) H) ∨ ∃ id off len cs, x = .sl te.size id off len ∧ H[id]? = some (.cells cs) ∧ off + len * te.size ≤ cs.length ∧
   K (.int .i64 ((min ys.length len : Nat) : Int)) (H.set id (.cells (putA cs off (flat (ys.take (min ys.length len)))))))

theorem src_pre {s : Nat} {ys : List AV} {i2 : TyA} {e2 : TypeId} (h1 : tyA P t2 = some i2) (h2 : i2.kind = .slice e2) (h : SrcP P H s t2 y ys) (hR : R B w0 μ Z H w) (hy : VR μ Z w H.length y cy) :
  ∃ news : List Value, news.length = (flat ys).length ∧ (∀ e, e ∈ ys → e.cells.length = s) ∧ (∀ (j : Nat) (v : AV), (flat ys)[j]? = some v → ∃ v', news[j]? = some v' ∧ v'.oneCell' = true ∧ VR μ Z w H.length v v') ∧
   (∀ w', (Builtin.lenOf cy).run P w' = .ok ys.length w') ∧ ∀ k, k ≤ ys.length → (Builtin.firstCells s k cy).run P w = .ok (news.take (k * s)).toArray w := by
 have pre : ∀ (a : Addr) (cap : Nat) (f : Nat → Value), (∀ e, e ∈ ys → e.cells.length = s) → (∀ (j : Nat) (v : AV), (flat ys)[j]? = some v → w.cell? (a.add j) = some (f j)) → ∀ k, k ≤ ys.length →
   (Builtin.firstCells s k (.slice (some a) ys.length cap)).run P w = .ok (((List.range (flat ys).length).map f).take (k * s)).toArray w := by
  intro a cap f hs hc k hk
  have hl := flat_length hs
  have hks := Nat.mul_le_mul_right s hk
  refine run_firstCells_some w s k a _ cap _ (by simp; omega) ?_
  intro j v hj
  have hjl := (List.getElem?_eq_some_iff.1 hj).1
  simp only [List.length_take, List.length_map, List.length_range] at hjl
  rw [List.getElem?_take_of_lt (by omega)] at hj
  have hlt : j < (flat ys).length := by omega
  simp only [List.getElem?_map, List.getElem?_range hlt, Option.map_some, Option.some.injEq] at hj
  subst hj
  exact hc j _ (List.getElem?_eq_getElem hlt)
 rcases h with h | ⟨ti, e, id, off, cs, hi, hk, rfl, hid, hlen, hs', hfl⟩
 ·unfold srcA at h
  rw [h1] at h
  simp only [h2] at h
  split at h
  ·rename_i sz ys' tl hk
   split at h
   ·rename_i hc
    cases h
    cases hy with
    | dl0 _ _ A cap h0 ht =>
     refine ⟨[], by simp [flat], by simp, by simp [flat], fun w' => by simp [Builtin.lenOf], fun k hk => ?_⟩
     obtain rfl : k = 0 := by simpa using hk
     cases A <;> simp [Builtin.firstCells, loadCells, loadCellsFrom]
    | dl _ _ _ c o cap f hs hcap g1 g2 g3 g5 ht =>
     have hs' : ∀ e, e ∈ ys → e.cells.length = s := by
      intro e he
      rcases hc with hc | hc
      ·rw [hs e he, hc]
      ·rw [hc] at he; cases he
     refine ⟨(List.range (flat ys).length).map f, by simp, hs', fun j v hj => ?_, fun w' => by simp [Builtin.lenOf], pre _ _ f hs' (fun j v hj => by rw [addr_add]; exact g1 j v hj)⟩
     have hlt := (List.getElem?_eq_some_iff.1 hj).1
     exact ⟨f j, by simp [hlt], g5 j hlt, g3 j v hj⟩
   ·cases h
  ·rename_i hk; cases hk
  ·cases h
 ·obtain ⟨hb, hz, ccs, e2, fr, hblk, hfr, hsz, hcs⟩ := hR.obj id _ hid
  have hl := flat_length hs'
  have hcellw : ∀ k, w.cell? ⟨(μ id).1, k, none⟩ = ccs[k]? := fun k => cell_of_row w _ _ ccs e2 fr hblk
  have hget : ∀ (j : Nat) (v : AV), (flat ys)[j]? = some v → ∃ v', ccs[(μ id).2 + off + j]? = some v' ∧ v'.oneCell' = true ∧ VR μ Z w H.length v v' := by
   intro j v hj
   have hjl := (List.getElem?_eq_some_iff.1 hj).1
   rw [hfl, List.getElem?_take_of_lt (by omega), List.getElem?_drop] at hj
   obtain ⟨v', k1, k2, k3⟩ := hcs _ v hj
   exact ⟨v', by rw [Nat.add_assoc]; exact k1, k2, k3⟩
  generalize hL : ys.length = L at hy
  cases hy with
  | sl _ _ _ _ cap q1 q2 q3 e' N q4 q5 =>
  subst hL
  refine ⟨(List.range (flat ys).length).map (fun j => (ccs[(μ id).2 + off + j]?).getD default), by simp, hs', fun j v hj => ?_, fun w' => by simp [Builtin.lenOf], pre _ _ _ hs' (fun j v hj => ?_)⟩
  ·have hlt := (List.getElem?_eq_some_iff.1 hj).1
   obtain ⟨v', k1, k2, k3⟩ := hget j v hj
   exact ⟨v', by simp [hlt, k1], k2, k3⟩
  ·obtain ⟨v', k1, k2, k3⟩ := hget j v hj
   rw [addr_add, hcellw, k1]; rfl
theorem flat_takeA {s : Nat} : ∀ {ys : List AV}, (∀ e, e ∈ ys → e.cells.length = s) → ∀ k, flat (ys.take k) = (flat ys).take (k * s)
 | [], _, k => by simp [flat]
 | y :: ys, h, 0 => by simp [flat]
 | y :: ys, h, k + 1 => by
  rw [List.take_succ_cons, flat_cons, flat_cons, flat_takeA (fun e he => h e (by simp [he])) k, Nat.succ_mul, Nat.add_comm]
  have hy : y.cells.length = s := h y (by simp)
  rw [← hy, List.take_length_add_append]
theorem cpy_sound {K : AV → AHeap → Prop} (h : CpyQ P t t2 x y H K) (hR : R B w0 μ Z H w) (hx : VR μ Z w H.length x cx) (hy : VR μ Z w H.length y cy) :
  ∃ cv w' v H', (Builtin.copy_ #[t, t2] ty #[cx, cy]).run P w = .ok cv w' ∧ R B w0 μ Z H' w' ∧ VR μ Z w' H'.length v cv ∧ Ev μ Z H w μ Z H' w' ∧ K v H' := by
 obtain ⟨ti, e, te, i2, e2, ys, h1, h2, h3, h4, h5, hsrc, hone, h⟩ := h
 have hu := kind_slice h1 h2
 obtain ⟨news, n1, hs, n2, n3, n4⟩ := src_pre h4 h5 hsrc hR hy
 rcases h with ⟨sz, tl, rfl, hK⟩ | ⟨id, off, len, cs, rfl, hid, hlen, hK⟩
 ·obtain ⟨A, c, rfl⟩ : ∃ A c, cx = .slice A 0 c := by
   generalize hL : ([] : List AV) = L at hx
   cases hx with
   | dl0 => exact ⟨_, _, rfl⟩
   | dl => subst hL; exact ⟨_, _, rfl⟩
  have n40 := n4 0 (Nat.zero_le _)
  refine ⟨goInt 0, w, .int .i64 0, H, ?_, hR, .int _ _, Ev.refl μ Z H w, hK⟩
  have hmin : Nat.min ys.length 0 = 0 := Nat.min_zero _
  simp only [Nat.zero_mul, List.take_zero] at n40
  cases A <;> simp [Builtin.copy_, run_und hu, n3, hmin, run_sizeOf' h3, n40, storeCells]
 ·have hm : Nat.min ys.length len ≤ ys.length := Nat.min_le_left _ _
  have n4m := n4 _ hm
  have hfl := flat_length hs
  have hks := Nat.mul_le_mul_right te.size hm
  have hks2 : Nat.min ys.length len * te.size ≤ len * te.size := Nat.mul_le_mul_right te.size (Nat.min_le_right ys.length len)
  have hft := flat_takeA hs (Nat.min ys.length len)
  have hftl : (flat (ys.take (Nat.min ys.length len))).length = Nat.min ys.length len * te.size := by rw [hft, List.length_take]; omega
  cases hx with
  | sl _ _ _ _ cap q1 q2 q3 e' N q4 q5 =>
  obtain ⟨g1, g2, g3⟩ := store_cells (P := P) hR hid (off := off) (vs := flat (ys.take (Nat.min ys.length len))) (cvs := news.take (Nat.min ys.length len * te.size)) (by rw [hftl, List.length_take, n1]; omega) (by rw [hftl]; show off + Nat.min ys.length len * te.size ≤ _; omega)
   (fun j v hj => by
    have hjl := (List.getElem?_eq_some_iff.1 hj).1
    rw [hft, List.getElem?_take_of_lt (by omega)] at hj
    obtain ⟨v', k1, k2, k3⟩ := n2 j v hj
    exact ⟨v', by rw [List.getElem?_take_of_lt (by omega)]; exact k1, k3⟩)
   (List.all_eq_true.2 fun v hv => hone v (by rw [hft] at hv; exact List.mem_of_mem_take hv))
  refine ⟨_, _, .int .i64 _, _, ?_, g2, .int _ _, g3, hK⟩
  simp [Builtin.copy_, run_und hu, n3, run_sizeOf' h3, n4m, g1, goInt]
end
end Go.Av
end
