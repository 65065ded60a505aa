/-
  No cell of these rows narrows 'for every input' (looked for: loops, veiled, ifaces, maps, wideKeys, modest, calm, conditions, laid).
  DERIVED. THE GIVEN ROWS OF THIS SEAT. 9 by the template 'for every input the law returns true; each argument reads behind the call as it read before'; 0 by the template 'total and deterministic' (their statements: YtjmhdecofadfnaaGreatTotals.lean).
  GIVEN WITH THE SEED: the statements are not yours to turn. If you find one false, say at which input.
  Laid BY PROGRAM, IN A SANDBOX (cutbox-rows.mjs): the forced cells as the released guide's own fill.sh prints them over the translation e5723bafceaefe70… (all of the seat's roots in one cut). By AI agents, Wed Nov 11 2026. No macro, syntax, notation, axiom, sorry.
-/
import Derived.Test.YtjmhdecofadfnaaGreatChecked
import GoSem.Claim
import GoSem.ClaimJoined
import GoSem.ClaimMapViews
import Derived.JoinedTies
import Derived.KernelRfl
namespace Go.Proofs.YtjmhdecofadfnaaGreat
/- THE CELL 'sum', in the pinned program and in every row, IS THE sha256 OF THE DUMP (.gsa) THAT YtjmhdecofadfnaaGreatProg.lean LOADS. Nothing in Lean hashes anything: it is a label: what it is worth is what the hold of that sum in a sandbox is worth. -/
noncomputable def Tryz.pinned : Pinned := { name := "ytjmhdecofadfnaagreat", sum := "e5723bafceaefe70dbf40692b617812bfb312f192105fede385ae5a448a146b8", checked := Tryz.checked }
namespace Rows
def none {H : Type} : Left H := { results := [], args := [] }

/-- 'skymosaiclaw20.MaskValid': WHATEVER THE INPUT: true; the input reads as it did. -/
def maskValidSpec : ChangeSpec := { name := "maskValid", fn := fun _ => fun
  | [d1, d2, d3, d4, d5, d6, d7] => { results := [.lit (.bool true)], args := [d1, d2, d3, d4, d5, d6, d7] }
  | _ => none }
def maskValidRow : OpenClaim := { program := "ytjmhdecofadfnaagreat", sum := "e5723bafceaefe70dbf40692b617812bfb312f192105fede385ae5a448a146b8", func := "skymosaic/skymosaiclaw20.MaskValid", spec := "maskValid", unfollowed := true, recurses := true, apart := false }
def MaskValidSaid : Prop := maskValidRow.holds Tryz.pinned (OpenSpec.ofChange maskValidSpec)

/-- ITS FALSE NEIGHBOUR: 'it returns false'. Refute it at one input. -/
def maskValidWrong : ChangeSpec := { name := "maskValid", fn := fun _ => fun
  | [d1, d2, d3, d4, d5, d6, d7] => { results := [.lit (.bool false)], args := [d1, d2, d3, d4, d5, d6, d7] }
  | _ => none }
def MaskValidWrongFalsely : Prop := maskValidRow.holds Tryz.pinned (OpenSpec.ofChange maskValidWrong)

/-- 'skymosaiclaw20.MaskCuts': WHATEVER THE INPUT: true; the input reads as it did. -/
def maskCutsSpec : ChangeSpec := { name := "maskCuts", fn := fun _ => fun
  | [d1, d2, d3, d4, d5, d6, d7, d8, d9] => { results := [.lit (.bool true)], args := [d1, d2, d3, d4, d5, d6, d7, d8, d9] }
  | _ => none }
def maskCutsRow : OpenClaim := { program := "ytjmhdecofadfnaagreat", sum := "e5723bafceaefe70dbf40692b617812bfb312f192105fede385ae5a448a146b8", func := "skymosaic/skymosaiclaw20.MaskCuts", spec := "maskCuts", unfollowed := true, recurses := true, apart := false }
def MaskCutsSaid : Prop := maskCutsRow.holds Tryz.pinned (OpenSpec.ofChange maskCutsSpec)

/-- ITS FALSE NEIGHBOUR: 'it returns false'. Refute it at one input. -/
def maskCutsWrong : ChangeSpec := { name := "maskCuts", fn := fun _ => fun
  | [d1, d2, d3, d4, d5, d6, d7, d8, d9] => { results := [.lit (.bool false)], args := [d1, d2, d3, d4, d5, d6, d7, d8, d9] }
  | _ => none }
def MaskCutsWrongFalsely : Prop := maskCutsRow.holds Tryz.pinned (OpenSpec.ofChange maskCutsWrong)

/-- 'skymosaiclaw20.MaskPolygons': WHATEVER THE INPUT: true; the input reads as it did. -/
def maskPolygonsSpec : ChangeSpec := { name := "maskPolygons", fn := fun _ => fun
  | [d1, d2, d3, d4, d5, d6, d7, d8] => { results := [.lit (.bool true)], args := [d1, d2, d3, d4, d5, d6, d7, d8] }
  | _ => none }
def maskPolygonsRow : OpenClaim := { program := "ytjmhdecofadfnaagreat", sum := "e5723bafceaefe70dbf40692b617812bfb312f192105fede385ae5a448a146b8", func := "skymosaic/skymosaiclaw20.MaskPolygons", spec := "maskPolygons", unfollowed := true, recurses := true, apart := false }
def MaskPolygonsSaid : Prop := maskPolygonsRow.holds Tryz.pinned (OpenSpec.ofChange maskPolygonsSpec)

/-- ITS FALSE NEIGHBOUR: 'it returns false'. Refute it at one input. -/
def maskPolygonsWrong : ChangeSpec := { name := "maskPolygons", fn := fun _ => fun
  | [d1, d2, d3, d4, d5, d6, d7, d8] => { results := [.lit (.bool false)], args := [d1, d2, d3, d4, d5, d6, d7, d8] }
  | _ => none }
def MaskPolygonsWrongFalsely : Prop := maskPolygonsRow.holds Tryz.pinned (OpenSpec.ofChange maskPolygonsWrong)

/-- 'skymosaiclaw20.MaskBytes': WHATEVER THE INPUT: true; the input reads as it did. -/
def maskBytesSpec : ChangeSpec := { name := "maskBytes", fn := fun _ => fun
  | [d1, d2, d3, d4, d5, d6, d7] => { results := [.lit (.bool true)], args := [d1, d2, d3, d4, d5, d6, d7] }
  | _ => none }
def maskBytesRow : OpenClaim := { program := "ytjmhdecofadfnaagreat", sum := "e5723bafceaefe70dbf40692b617812bfb312f192105fede385ae5a448a146b8", func := "skymosaic/skymosaiclaw20.MaskBytes", spec := "maskBytes", unfollowed := true, recurses := true, apart := false }
def MaskBytesSaid : Prop := maskBytesRow.holds Tryz.pinned (OpenSpec.ofChange maskBytesSpec)

/-- ITS FALSE NEIGHBOUR: 'it returns false'. Refute it at one input. -/
def maskBytesWrong : ChangeSpec := { name := "maskBytes", fn := fun _ => fun
  | [d1, d2, d3, d4, d5, d6, d7] => { results := [.lit (.bool false)], args := [d1, d2, d3, d4, d5, d6, d7] }
  | _ => none }
def MaskBytesWrongFalsely : Prop := maskBytesRow.holds Tryz.pinned (OpenSpec.ofChange maskBytesWrong)

/-- 'skymosaiclaw20.MaskSets': WHATEVER THE INPUT: true; the input reads as it did. -/
def maskSetsSpec : ChangeSpec := { name := "maskSets", fn := fun _ => fun
  | [d1, d2, d3, d4, d5, d6] => { results := [.lit (.bool true)], args := [d1, d2, d3, d4, d5, d6] }
  | _ => none }
def maskSetsRow : OpenClaim := { program := "ytjmhdecofadfnaagreat", sum := "e5723bafceaefe70dbf40692b617812bfb312f192105fede385ae5a448a146b8", func := "skymosaic/skymosaiclaw20.MaskSets", spec := "maskSets", unfollowed := true, recurses := true, apart := false }
def MaskSetsSaid : Prop := maskSetsRow.holds Tryz.pinned (OpenSpec.ofChange maskSetsSpec)

/-- ITS FALSE NEIGHBOUR: 'it returns false'. Refute it at one input. -/
def maskSetsWrong : ChangeSpec := { name := "maskSets", fn := fun _ => fun
  | [d1, d2, d3, d4, d5, d6] => { results := [.lit (.bool false)], args := [d1, d2, d3, d4, d5, d6] }
  | _ => none }
def MaskSetsWrongFalsely : Prop := maskSetsRow.holds Tryz.pinned (OpenSpec.ofChange maskSetsWrong)

/-- 'skymosaiclaw20.MaskAlgebra': WHATEVER THE INPUT: true; the input reads as it did. -/
def maskAlgebraSpec : ChangeSpec := { name := "maskAlgebra", fn := fun _ => fun
  | [d1, d2, d3, d4, d5] => { results := [.lit (.bool true)], args := [d1, d2, d3, d4, d5] }
  | _ => none }
def maskAlgebraRow : OpenClaim := { program := "ytjmhdecofadfnaagreat", sum := "e5723bafceaefe70dbf40692b617812bfb312f192105fede385ae5a448a146b8", func := "skymosaic/skymosaiclaw20.MaskAlgebra", spec := "maskAlgebra", unfollowed := true, recurses := true, apart := false }
def MaskAlgebraSaid : Prop := maskAlgebraRow.holds Tryz.pinned (OpenSpec.ofChange maskAlgebraSpec)

/-- ITS FALSE NEIGHBOUR: 'it returns false'. Refute it at one input. -/
def maskAlgebraWrong : ChangeSpec := { name := "maskAlgebra", fn := fun _ => fun
  | [d1, d2, d3, d4, d5] => { results := [.lit (.bool false)], args := [d1, d2, d3, d4, d5] }
  | _ => none }
def MaskAlgebraWrongFalsely : Prop := maskAlgebraRow.holds Tryz.pinned (OpenSpec.ofChange maskAlgebraWrong)

/-- 'skymosaiclaw20.MaskShared': WHATEVER THE INPUT: true; the input reads as it did. -/
def maskSharedSpec : ChangeSpec := { name := "maskShared", fn := fun _ => fun
  | [d1, d2, d3, d4, d5, d6] => { results := [.lit (.bool true)], args := [d1, d2, d3, d4, d5, d6] }
  | _ => none }
def maskSharedRow : OpenClaim := { program := "ytjmhdecofadfnaagreat", sum := "e5723bafceaefe70dbf40692b617812bfb312f192105fede385ae5a448a146b8", func := "skymosaic/skymosaiclaw20.MaskShared", spec := "maskShared", unfollowed := true, recurses := true, apart := false }
def MaskSharedSaid : Prop := maskSharedRow.holds Tryz.pinned (OpenSpec.ofChange maskSharedSpec)

/-- ITS FALSE NEIGHBOUR: 'it returns false'. Refute it at one input. -/
def maskSharedWrong : ChangeSpec := { name := "maskShared", fn := fun _ => fun
  | [d1, d2, d3, d4, d5, d6] => { results := [.lit (.bool false)], args := [d1, d2, d3, d4, d5, d6] }
  | _ => none }
def MaskSharedWrongFalsely : Prop := maskSharedRow.holds Tryz.pinned (OpenSpec.ofChange maskSharedWrong)

/-- 'skymosaiclaw20.MaskParts': WHATEVER THE INPUT: true; the input reads as it did. -/
def maskPartsSpec : ChangeSpec := { name := "maskParts", fn := fun _ => fun
  | [d1, d2, d3, d4, d5] => { results := [.lit (.bool true)], args := [d1, d2, d3, d4, d5] }
  | _ => none }
def maskPartsRow : OpenClaim := { program := "ytjmhdecofadfnaagreat", sum := "e5723bafceaefe70dbf40692b617812bfb312f192105fede385ae5a448a146b8", func := "skymosaic/skymosaiclaw20.MaskParts", spec := "maskParts", unfollowed := true, recurses := true, apart := false }
def MaskPartsSaid : Prop := maskPartsRow.holds Tryz.pinned (OpenSpec.ofChange maskPartsSpec)

/-- ITS FALSE NEIGHBOUR: 'it returns false'. Refute it at one input. -/
def maskPartsWrong : ChangeSpec := { name := "maskParts", fn := fun _ => fun
  | [d1, d2, d3, d4, d5] => { results := [.lit (.bool false)], args := [d1, d2, d3, d4, d5] }
  | _ => none }
def MaskPartsWrongFalsely : Prop := maskPartsRow.holds Tryz.pinned (OpenSpec.ofChange maskPartsWrong)

/-- 'skymosaiclaw20.MaskGrows': WHATEVER THE INPUT: true; the input reads as it did. -/
def maskGrowsSpec : ChangeSpec := { name := "maskGrows", fn := fun _ => fun
  | [d1, d2, d3, d4, d5, d6] => { results := [.lit (.bool true)], args := [d1, d2, d3, d4, d5, d6] }
  | _ => none }
def maskGrowsRow : OpenClaim := { program := "ytjmhdecofadfnaagreat", sum := "e5723bafceaefe70dbf40692b617812bfb312f192105fede385ae5a448a146b8", func := "skymosaic/skymosaiclaw20.MaskGrows", spec := "maskGrows", unfollowed := true, recurses := true, apart := false }
def MaskGrowsSaid : Prop := maskGrowsRow.holds Tryz.pinned (OpenSpec.ofChange maskGrowsSpec)

/-- ITS FALSE NEIGHBOUR: 'it returns false'. Refute it at one input. -/
def maskGrowsWrong : ChangeSpec := { name := "maskGrows", fn := fun _ => fun
  | [d1, d2, d3, d4, d5, d6] => { results := [.lit (.bool false)], args := [d1, d2, d3, d4, d5, d6] }
  | _ => none }
def MaskGrowsWrongFalsely : Prop := maskGrowsRow.holds Tryz.pinned (OpenSpec.ofChange maskGrowsWrong)

/- THE SECOND FORM. 'bulk': how many values and letters a reading holds, each counted each time it is reached (what is shared counts as often as it is met; a slice's spare places count too). A statement '..UptoSaid' is the law's where the arguments, and the package variables that the reading takes, are together of bulk at most 1048576: NARROWER than '..Said'. Prove '..Said' where nothing that the law and all that it calls make is longer than what came in: it says more and counts as full. Else prove '..UptoSaid'. A law counts once. -/
mutual
def uptoBulk {H : Type} : DataW H → Nat
  | .lit (.string bytes) => bytes.length + 1
  | .lit _ => 1
  | .nil => 1
  | .ptr d => uptoBulk d + 1
  | .slice elems spare => uptoBulkAll elems + uptoBulkAll spare + 1
  | .agg parts => uptoBulkAll parts + 1
  | .iface _ d => uptoBulk d + 1
  | .map entries => uptoBulkEntries entries + 1
  | .held _ => 1
def uptoBulkAll {H : Type} : List (DataW H) → Nat
  | [] => 0
  | d :: r => uptoBulk d + uptoBulkAll r
def uptoBulkEntries {H : Type} : List (Lit × DataW H) → Nat
  | [] => 0
  | x :: r => uptoBulkEntry x + uptoBulkEntries r
def uptoBulkEntry {H : Type} : Lit × DataW H → Nat
  | (.string bytes, d) => bytes.length + uptoBulk d + 1
  | (_, d) => uptoBulk d + 1
 end
def uptoSmall : (H : Type) → List (DataW H) → Bool := fun _ ds => decide (uptoBulkAll ds ≤ 1048576)
def OpenSpec.upto (s : _root_.Go.ChangeSpec) : _root_.Go.OpenSpec := { _root_.Go.OpenSpec.ofChange s with cond := some uptoSmall }

/-- 'skymosaiclaw20.MaskValid', WHERE WHAT IT READS IS OF BULK AT MOST 1048576: true; the input reads as it did. -/
def maskValidUptoRow : OpenClaim := { program := "ytjmhdecofadfnaagreat", sum := "e5723bafceaefe70dbf40692b617812bfb312f192105fede385ae5a448a146b8", func := "skymosaic/skymosaiclaw20.MaskValid", spec := "maskValid", unfollowed := true, recurses := true, apart := false, narrowed := true }
def MaskValidUptoSaid : Prop := maskValidUptoRow.holds Tryz.pinned (OpenSpec.upto maskValidSpec)

/-- 'skymosaiclaw20.MaskCuts', WHERE WHAT IT READS IS OF BULK AT MOST 1048576: true; the input reads as it did. -/
def maskCutsUptoRow : OpenClaim := { program := "ytjmhdecofadfnaagreat", sum := "e5723bafceaefe70dbf40692b617812bfb312f192105fede385ae5a448a146b8", func := "skymosaic/skymosaiclaw20.MaskCuts", spec := "maskCuts", unfollowed := true, recurses := true, apart := false, narrowed := true }
def MaskCutsUptoSaid : Prop := maskCutsUptoRow.holds Tryz.pinned (OpenSpec.upto maskCutsSpec)

/-- 'skymosaiclaw20.MaskPolygons', WHERE WHAT IT READS IS OF BULK AT MOST 1048576: true; the input reads as it did. -/
def maskPolygonsUptoRow : OpenClaim := { program := "ytjmhdecofadfnaagreat", sum := "e5723bafceaefe70dbf40692b617812bfb312f192105fede385ae5a448a146b8", func := "skymosaic/skymosaiclaw20.MaskPolygons", spec := "maskPolygons", unfollowed := true, recurses := true, apart := false, narrowed := true }
def MaskPolygonsUptoSaid : Prop := maskPolygonsUptoRow.holds Tryz.pinned (OpenSpec.upto maskPolygonsSpec)

/-- 'skymosaiclaw20.MaskBytes', WHERE WHAT IT READS IS OF BULK AT MOST 1048576: true; the input reads as it did. -/
def maskBytesUptoRow : OpenClaim := { program := "ytjmhdecofadfnaagreat", sum := "e5723bafceaefe70dbf40692b617812bfb312f192105fede385ae5a448a146b8", func := "skymosaic/skymosaiclaw20.MaskBytes", spec := "maskBytes", unfollowed := true, recurses := true, apart := false, narrowed := true }
def MaskBytesUptoSaid : Prop := maskBytesUptoRow.holds Tryz.pinned (OpenSpec.upto maskBytesSpec)

/-- 'skymosaiclaw20.MaskSets', WHERE WHAT IT READS IS OF BULK AT MOST 1048576: true; the input reads as it did. -/
def maskSetsUptoRow : OpenClaim := { program := "ytjmhdecofadfnaagreat", sum := "e5723bafceaefe70dbf40692b617812bfb312f192105fede385ae5a448a146b8", func := "skymosaic/skymosaiclaw20.MaskSets", spec := "maskSets", unfollowed := true, recurses := true, apart := false, narrowed := true }
def MaskSetsUptoSaid : Prop := maskSetsUptoRow.holds Tryz.pinned (OpenSpec.upto maskSetsSpec)

/-- 'skymosaiclaw20.MaskAlgebra', WHERE WHAT IT READS IS OF BULK AT MOST 1048576: true; the input reads as it did. -/
def maskAlgebraUptoRow : OpenClaim := { program := "ytjmhdecofadfnaagreat", sum := "e5723bafceaefe70dbf40692b617812bfb312f192105fede385ae5a448a146b8", func := "skymosaic/skymosaiclaw20.MaskAlgebra", spec := "maskAlgebra", unfollowed := true, recurses := true, apart := false, narrowed := true }
def MaskAlgebraUptoSaid : Prop := maskAlgebraUptoRow.holds Tryz.pinned (OpenSpec.upto maskAlgebraSpec)

/-- 'skymosaiclaw20.MaskShared', WHERE WHAT IT READS IS OF BULK AT MOST 1048576: true; the input reads as it did. -/
def maskSharedUptoRow : OpenClaim := { program := "ytjmhdecofadfnaagreat", sum := "e5723bafceaefe70dbf40692b617812bfb312f192105fede385ae5a448a146b8", func := "skymosaic/skymosaiclaw20.MaskShared", spec := "maskShared", unfollowed := true, recurses := true, apart := false, narrowed := true }
def MaskSharedUptoSaid : Prop := maskSharedUptoRow.holds Tryz.pinned (OpenSpec.upto maskSharedSpec)

/-- 'skymosaiclaw20.MaskParts', WHERE WHAT IT READS IS OF BULK AT MOST 1048576: true; the input reads as it did. -/
def maskPartsUptoRow : OpenClaim := { program := "ytjmhdecofadfnaagreat", sum := "e5723bafceaefe70dbf40692b617812bfb312f192105fede385ae5a448a146b8", func := "skymosaic/skymosaiclaw20.MaskParts", spec := "maskParts", unfollowed := true, recurses := true, apart := false, narrowed := true }
def MaskPartsUptoSaid : Prop := maskPartsUptoRow.holds Tryz.pinned (OpenSpec.upto maskPartsSpec)

/-- 'skymosaiclaw20.MaskGrows', WHERE WHAT IT READS IS OF BULK AT MOST 1048576: true; the input reads as it did. -/
def maskGrowsUptoRow : OpenClaim := { program := "ytjmhdecofadfnaagreat", sum := "e5723bafceaefe70dbf40692b617812bfb312f192105fede385ae5a448a146b8", func := "skymosaic/skymosaiclaw20.MaskGrows", spec := "maskGrows", unfollowed := true, recurses := true, apart := false, narrowed := true }
def MaskGrowsUptoSaid : Prop := maskGrowsUptoRow.holds Tryz.pinned (OpenSpec.upto maskGrowsSpec)

end Rows
end Go.Proofs.YtjmhdecofadfnaaGreat
