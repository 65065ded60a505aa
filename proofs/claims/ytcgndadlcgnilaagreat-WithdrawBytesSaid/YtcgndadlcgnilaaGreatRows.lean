/-
  No cell of these rows narrows 'for every input' (looked for: loops, veiled, ifaces, maps, wideKeys, modest, calm, conditions, laid).
  DERIVED. THE GIVEN ROWS OF THIS SEAT. 4 by the template 'for every input the law returns true; each argument reads behind the call as it read before'; 0 by the template 'total and deterministic' (their statements: YtcgndadlcgnilaaGreatTotals.lean).
  GIVEN WITH THE SEED: the statements are not yours to turn. If you find one false, say at which input.
  Laid BY PROGRAM, IN A SANDBOX (cutbox-rows.mjs): the forced cells as the released guide's own fill.sh prints them over the translation 11e50f94d2fe48d2… (all of the seat's roots in one cut). By AI agents, Wed Nov 11 2026. No macro, syntax, notation, axiom, sorry.
-/
import Derived.Test.YtcgndadlcgnilaaGreatChecked
import GoSem.Claim
import GoSem.ClaimJoined
import GoSem.ClaimMapViews
import Derived.JoinedTies
import Derived.KernelRfl
namespace Go.Proofs.YtcgndadlcgnilaaGreat
/- THE CELL 'sum', in the pinned program and in every row, IS THE sha256 OF THE DUMP (.gsa) THAT YtcgndadlcgnilaaGreatProg.lean LOADS. Nothing in Lean hashes anything: it is a label: what it is worth is what the hold of that sum in a sandbox is worth. -/
noncomputable def Tryz.pinned : Pinned := { name := "ytcgndadlcgnilaagreat", sum := "11e50f94d2fe48d29e3e4465413afebf20a10a597aabf28296bbfe1a26075344", checked := Tryz.checked }
namespace Rows
def none {H : Type} : Left H := { results := [], args := [] }

/-- 'skymosaiclaw38.WithdrawMakes': WHATEVER THE INPUT: true; the input reads as it did. -/
def withdrawMakesSpec : ChangeSpec := { name := "withdrawMakes", fn := fun _ => fun
  | [d1, d2, d3, d4, d5] => { results := [.lit (.bool true)], args := [d1, d2, d3, d4, d5] }
  | _ => none }
def withdrawMakesRow : OpenClaim := { program := "ytcgndadlcgnilaagreat", sum := "11e50f94d2fe48d29e3e4465413afebf20a10a597aabf28296bbfe1a26075344", func := "skymosaic/skymosaiclaw38.WithdrawMakes", spec := "withdrawMakes", unfollowed := true, recurses := true, apart := false }
def WithdrawMakesSaid : Prop := withdrawMakesRow.holds Tryz.pinned (OpenSpec.ofChange withdrawMakesSpec)

/-- ITS FALSE NEIGHBOUR: 'it returns false'. Refute it at one input. -/
def withdrawMakesWrong : ChangeSpec := { name := "withdrawMakes", fn := fun _ => fun
  | [d1, d2, d3, d4, d5] => { results := [.lit (.bool false)], args := [d1, d2, d3, d4, d5] }
  | _ => none }
def WithdrawMakesWrongFalsely : Prop := withdrawMakesRow.holds Tryz.pinned (OpenSpec.ofChange withdrawMakesWrong)

/-- 'skymosaiclaw38.WithdrawChecks': WHATEVER THE INPUT: true; the input reads as it did. -/
def withdrawChecksSpec : ChangeSpec := { name := "withdrawChecks", fn := fun _ => fun
  | [d1, d2, d3, d4, d5, d6] => { results := [.lit (.bool true)], args := [d1, d2, d3, d4, d5, d6] }
  | _ => none }
def withdrawChecksRow : OpenClaim := { program := "ytcgndadlcgnilaagreat", sum := "11e50f94d2fe48d29e3e4465413afebf20a10a597aabf28296bbfe1a26075344", func := "skymosaic/skymosaiclaw38.WithdrawChecks", spec := "withdrawChecks", unfollowed := true, recurses := true, apart := false }
def WithdrawChecksSaid : Prop := withdrawChecksRow.holds Tryz.pinned (OpenSpec.ofChange withdrawChecksSpec)

/-- ITS FALSE NEIGHBOUR: 'it returns false'. Refute it at one input. -/
def withdrawChecksWrong : ChangeSpec := { name := "withdrawChecks", fn := fun _ => fun
  | [d1, d2, d3, d4, d5, d6] => { results := [.lit (.bool false)], args := [d1, d2, d3, d4, d5, d6] }
  | _ => none }
def WithdrawChecksWrongFalsely : Prop := withdrawChecksRow.holds Tryz.pinned (OpenSpec.ofChange withdrawChecksWrong)

/-- 'skymosaiclaw38.WithdrawNamed': WHATEVER THE INPUT: true; the input reads as it did. -/
def withdrawNamedSpec : ChangeSpec := { name := "withdrawNamed", fn := fun _ => fun
  | [d1, d2, d3, d4, d5] => { results := [.lit (.bool true)], args := [d1, d2, d3, d4, d5] }
  | _ => none }
def withdrawNamedRow : OpenClaim := { program := "ytcgndadlcgnilaagreat", sum := "11e50f94d2fe48d29e3e4465413afebf20a10a597aabf28296bbfe1a26075344", func := "skymosaic/skymosaiclaw38.WithdrawNamed", spec := "withdrawNamed", unfollowed := true, recurses := true, apart := false }
def WithdrawNamedSaid : Prop := withdrawNamedRow.holds Tryz.pinned (OpenSpec.ofChange withdrawNamedSpec)

/-- ITS FALSE NEIGHBOUR: 'it returns false'. Refute it at one input. -/
def withdrawNamedWrong : ChangeSpec := { name := "withdrawNamed", fn := fun _ => fun
  | [d1, d2, d3, d4, d5] => { results := [.lit (.bool false)], args := [d1, d2, d3, d4, d5] }
  | _ => none }
def WithdrawNamedWrongFalsely : Prop := withdrawNamedRow.holds Tryz.pinned (OpenSpec.ofChange withdrawNamedWrong)

/-- 'skymosaiclaw38.WithdrawBytes': WHATEVER THE INPUT: true; the input reads as it did. -/
def withdrawBytesSpec : ChangeSpec := { name := "withdrawBytes", fn := fun _ => fun
  | [d1, d2, d3, d4, d5, d6, d7] => { results := [.lit (.bool true)], args := [d1, d2, d3, d4, d5, d6, d7] }
  | _ => none }
def withdrawBytesRow : OpenClaim := { program := "ytcgndadlcgnilaagreat", sum := "11e50f94d2fe48d29e3e4465413afebf20a10a597aabf28296bbfe1a26075344", func := "skymosaic/skymosaiclaw38.WithdrawBytes", spec := "withdrawBytes", unfollowed := true, recurses := true, apart := false }
def WithdrawBytesSaid : Prop := withdrawBytesRow.holds Tryz.pinned (OpenSpec.ofChange withdrawBytesSpec)

/-- ITS FALSE NEIGHBOUR: 'it returns false'. Refute it at one input. -/
def withdrawBytesWrong : ChangeSpec := { name := "withdrawBytes", fn := fun _ => fun
  | [d1, d2, d3, d4, d5, d6, d7] => { results := [.lit (.bool false)], args := [d1, d2, d3, d4, d5, d6, d7] }
  | _ => none }
def WithdrawBytesWrongFalsely : Prop := withdrawBytesRow.holds Tryz.pinned (OpenSpec.ofChange withdrawBytesWrong)

/- THE SECOND FORM. 'bulk': how many values and letters a reading holds, each counted each time it is reached (what is shared counts as often as it is met; a slice's spare places count too). A statement '..UptoSaid' is the law's where the arguments, and the package variables that the reading takes, are together of bulk at most 1048576: NARROWER than '..Said'. Prove '..Said' where nothing that the law and all that it calls make is longer than what came in: it says more and counts as full. Else prove '..UptoSaid'. A law counts once. -/
mutual
def uptoBulk {H : Type} : DataW H → Nat
  | .lit (.string bytes) => bytes.length + 1
  | .lit _ => 1
  | .nil => 1
  | .ptr d => uptoBulk d + 1
  | .slice elems spare => uptoBulkAll elems + uptoBulkAll spare + 1
  | .agg parts => uptoBulkAll parts + 1
  | .iface _ d => uptoBulk d + 1
  | .map entries => uptoBulkEntries entries + 1
  | .held _ => 1
def uptoBulkAll {H : Type} : List (DataW H) → Nat
  | [] => 0
  | d :: r => uptoBulk d + uptoBulkAll r
def uptoBulkEntries {H : Type} : List (Lit × DataW H) → Nat
  | [] => 0
  | x :: r => uptoBulkEntry x + uptoBulkEntries r
def uptoBulkEntry {H : Type} : Lit × DataW H → Nat
  | (.string bytes, d) => bytes.length + uptoBulk d + 1
  | (_, d) => uptoBulk d + 1
 end
def uptoSmall : (H : Type) → List (DataW H) → Bool := fun _ ds => decide (uptoBulkAll ds ≤ 1048576)
def OpenSpec.upto (s : _root_.Go.ChangeSpec) : _root_.Go.OpenSpec := { _root_.Go.OpenSpec.ofChange s with cond := some uptoSmall }

/-- 'skymosaiclaw38.WithdrawMakes', WHERE WHAT IT READS IS OF BULK AT MOST 1048576: true; the input reads as it did. -/
def withdrawMakesUptoRow : OpenClaim := { program := "ytcgndadlcgnilaagreat", sum := "11e50f94d2fe48d29e3e4465413afebf20a10a597aabf28296bbfe1a26075344", func := "skymosaic/skymosaiclaw38.WithdrawMakes", spec := "withdrawMakes", unfollowed := true, recurses := true, apart := false, narrowed := true }
def WithdrawMakesUptoSaid : Prop := withdrawMakesUptoRow.holds Tryz.pinned (OpenSpec.upto withdrawMakesSpec)

/-- 'skymosaiclaw38.WithdrawChecks', WHERE WHAT IT READS IS OF BULK AT MOST 1048576: true; the input reads as it did. -/
def withdrawChecksUptoRow : OpenClaim := { program := "ytcgndadlcgnilaagreat", sum := "11e50f94d2fe48d29e3e4465413afebf20a10a597aabf28296bbfe1a26075344", func := "skymosaic/skymosaiclaw38.WithdrawChecks", spec := "withdrawChecks", unfollowed := true, recurses := true, apart := false, narrowed := true }
def WithdrawChecksUptoSaid : Prop := withdrawChecksUptoRow.holds Tryz.pinned (OpenSpec.upto withdrawChecksSpec)

/-- 'skymosaiclaw38.WithdrawNamed', WHERE WHAT IT READS IS OF BULK AT MOST 1048576: true; the input reads as it did. -/
def withdrawNamedUptoRow : OpenClaim := { program := "ytcgndadlcgnilaagreat", sum := "11e50f94d2fe48d29e3e4465413afebf20a10a597aabf28296bbfe1a26075344", func := "skymosaic/skymosaiclaw38.WithdrawNamed", spec := "withdrawNamed", unfollowed := true, recurses := true, apart := false, narrowed := true }
def WithdrawNamedUptoSaid : Prop := withdrawNamedUptoRow.holds Tryz.pinned (OpenSpec.upto withdrawNamedSpec)

/-- 'skymosaiclaw38.WithdrawBytes', WHERE WHAT IT READS IS OF BULK AT MOST 1048576: true; the input reads as it did. -/
def withdrawBytesUptoRow : OpenClaim := { program := "ytcgndadlcgnilaagreat", sum := "11e50f94d2fe48d29e3e4465413afebf20a10a597aabf28296bbfe1a26075344", func := "skymosaic/skymosaiclaw38.WithdrawBytes", spec := "withdrawBytes", unfollowed := true, recurses := true, apart := false, narrowed := true }
def WithdrawBytesUptoSaid : Prop := withdrawBytesUptoRow.holds Tryz.pinned (OpenSpec.upto withdrawBytesSpec)

end Rows
end Go.Proofs.YtcgndadlcgnilaaGreat
