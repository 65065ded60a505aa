/- the layer over the model, part 17 -/
import Derived.Test.YtcgndadlcgnilaaGreatA16
set_option autoImplicit false
set_option linter.unusedSimpArgs false
set_option linter.unusedVariables false
set_option linter.unnecessarySimpa false
section
set_option linter.unusedSimpArgs false
set_option linter.unusedVariables false
namespace Go.Av
open Go.RowKit

/-- The precondition, reckoned as far as the code has no loop. -/
def awp (P : Program) (B : Nat) (w0 : World) (rd : Option Nat) (Y : Hand) : Code → (Exit → List AV → AHeap → Prop) → List AV → AHeap → Prop
 | .skip, Q, a, H => Q .normal a H
 | .region _ ops false, Q, a, H => AOps P B w0 Y ops.toList ops.toList (Q .normal) a H
 | .seq x y, Q, a, H => awp P B w0 rd Y x (thenQ (awp P B w0 rd Y y Q) Q) a H
 | .cond c x y, Q, a, H => match ev a c with
  | .bool t => (t = true → awp P B w0 rd Y x Q a H) ∧ (t = false → awp P B w0 rd Y y Q a H)
  | _ => False
 | .block id c, Q, a, H => awp P B w0 rd Y c (blockQ id Q) a H
 | .exit id, Q, a, H => Q (.exit id) a H
 | .ret, Q, a, H => Q .ret a H
 | c, Q, a, H => AWP P B w0 rd c Q a H

theorem thenQ_mono {n n' : List AV → AHeap → Prop} {Q : Exit → List AV → AHeap → Prop} (h : ∀ a H, n a H → n' a H) : ∀ e a H, thenQ n Q e a H → thenQ n' Q e a H := by
 intro e a H hq
 cases e <;> first | exact h a H hq | exact hq

theorem awp_sound {P : Program} {B : Nat} {w0 : World} {rd : Option Nat} {Y : Hand} (hY : YSound P B w0 Y) : ∀ (c : Code) (Q : Exit → List AV → AHeap → Prop) (a : List AV) (H : AHeap), awp P B w0 rd Y c Q a H → AWP P B w0 rd c Q a H := by
 intro c
 induction c with
 | skip => intro Q a H h; exact AWP.skip h
 | region id ops draw =>
  intro Q a H h
  cases draw with
  | false => exact AWP.region hY h
  | true => exact h
 | seq x y ihx ihy => intro Q a H h; exact AWP.seq ((ihx _ a H h).mono (thenQ_mono fun a H h => ihy Q a H h))
 | cond c x y ihx ihy =>
  intro Q a H h
  simp only [awp] at h
  split at h
  ·rename_i t ht
   exact AWP.cond ht (fun e => ihx Q a H (h.1 e)) (fun e => ihy Q a H (h.2 e))
  ·exact h.elim
 | block id c ih => intro Q a H h; exact AWP.block (ih _ a H h)
 | exit id => intro Q a H h; exact AWP.exit h
 | ret => intro Q a H h; exact AWP.ret h
 | _ => intro Q a H h; exact h
end Go.Av
end
