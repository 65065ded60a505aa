/- the layer over the model, part 27 -/
import Derived.Test.YtcgndadlcgnilaaGreatA26
set_option autoImplicit false
set_option linter.unusedSimpArgs false
set_option linter.unusedVariables false
set_option linter.unnecessarySimpa false
section
namespace Go.Av
def encL0 (x : List Int) : AV := .dl 1 (x.map (AV.int .u64)) .none
structure S1 where
 c0 : Int
 c1 : Int
 c2 : Int
 c3 : Int
 c4 : (List Int)
 c5 : (List Int)
 c6 : Int
 deriving Inhabited, DecidableEq
def encS1 (x : S1) : AV := .agg [.int .i64 x.c0, .int .i64 x.c1, .int .i64 x.c2, .int .u64 x.c3, .dl 1 (x.c4.map (AV.int .u64)) .none, .dl 1 (x.c5.map (AV.int .u64)) .none, .int .u64 x.c6]
structure S2 where
 c0 : Int
 c1 : (List UInt8)
 c2 : Int
 c3 : Int
 c4 : Int
 c5 : Int
 c6 : Bool
 deriving Inhabited, DecidableEq
def encS2 (x : S2) : AV := .agg [.int .i64 x.c0, .str x.c1, .int .i64 x.c2, .int .i64 x.c3, .int .i64 x.c4, .int .u64 x.c5, .bool x.c6]
def encL3 (x : List S1) : AV := .dl 7 (x.map encS1) .none
def encL4 (x : List Int) : AV := .dl 1 (x.map (AV.int .u8)) .none
structure S5 where
 c0 : (List Int)
 deriving Inhabited, DecidableEq
def encS5 (x : S5) : AV := .agg [.dl 1 (x.c0.map (AV.int .u8)) .none]
structure S6 where
 c0 : Int
 c1 : Int
 c2 : (List UInt8)
 c3 : Int
 c4 : Int
 c5 : Int
 c6 : Int
 c7 : Bool
 deriving Inhabited, DecidableEq
def encS6 (x : S6) : AV := .agg [.int .i64 x.c0, .int .i64 x.c1, .str x.c2, .int .i64 x.c3, .int .i64 x.c4, .int .i64 x.c5, .int .u64 x.c6, .bool x.c7]
def encL7 (x : List Int) : AV := .dl 1 (x.map (AV.int .i64)) .none
structure S8 where
 c0 : Int
 c1 : Int
 c2 : (List Int)
 c3 : (List Int)
 c4 : (List Int)
 c5 : (List Int)
 c6 : (List Int)
 deriving Inhabited, DecidableEq
def encS8 (x : S8) : AV := .agg [.int .i64 x.c0, .int .i64 x.c1, .dl 1 (x.c2.map (AV.int .i64)) .none, .dl 1 (x.c3.map (AV.int .i64)) .none, .dl 1 (x.c4.map (AV.int .u64)) .none, .dl 1 (x.c5.map (AV.int .u64)) .none, .dl 1 (x.c6.map (AV.int .u64)) .none]
def encL9 (x : List S2) : AV := .dl 7 (x.map encS2) .none
def encL10 (x : List (List S1)) : AV := .dl 1 (x.map encL3) .none
structure S11 where
 c0 : (List Int)
 c1 : Int
 deriving Inhabited, DecidableEq
def encS11 (x : S11) : AV := .agg [.dl 1 (x.c0.map (AV.int .u8)) .none, .int .i64 x.c1]
end Go.Av
end
