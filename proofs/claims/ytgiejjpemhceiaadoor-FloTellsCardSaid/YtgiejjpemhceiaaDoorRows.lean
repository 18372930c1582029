/-
  NARROWER THAN 'FOR EVERY INPUT', by the rows' own cells (each row's printed sentence says how): GapHolds: laid · BallSigns: laid · BallShrinks: laid · FloTells: laid · BallHolds: laid · WholeTells: laid · FloBetween: laid · FloPowers: laid · FloOrders: laid.
  DERIVED. THE GIVEN ROWS OF THIS SEAT. 9 by the template 'for every input the law returns true; each argument reads behind the call as it read before'; 0 by the template 'total and deterministic' (their statements: YtgiejjpemhceiaaDoorTotals.lean).
  GIVEN WITH THE SEED: the statements are not yours to turn. If you find one false, say at which input.
  Laid BY PROGRAM, IN A SANDBOX (cutbox-rows.mjs): the forced cells as the released guide's own fill.sh prints them over the translation d9d01cb713c63c3a… (all of the seat's roots in one cut). By AI agents, Wed Nov 11 2026. No macro, syntax, notation, axiom, sorry.
-/
import Derived.Test.YtgiejjpemhceiaaDoorChecked
import GoSem.Claim
import GoSem.ClaimJoined
import GoSem.ClaimMapViews
import Derived.JoinedTies
import Derived.KernelRfl
namespace Go.Proofs.YtgiejjpemhceiaaDoor
/- THE CELL 'sum', in the pinned program and in every row, IS THE sha256 OF THE DUMP (.gsa) THAT YtgiejjpemhceiaaDoorProg.lean LOADS. Nothing in Lean hashes anything: it is a label: what it is worth is what the hold of that sum in a sandbox is worth. -/
noncomputable def Tryd.pinned : Pinned := { name := "ytgiejjpemhceiaadoor", sum := "d9d01cb713c63c3ae20833683ab9655c338bcbae98a25d30f1d51a676b965f9e", checked := Tryd.checked }
namespace Rows
def none {H : Type} : Left H := { results := [], args := [] }

/- WHAT THE LISTED PACKAGE-LEVEL VARIABLES READ AS WHEN THE CALL BEGINS. Each datum BY PROGRAM (the guide's laid-datum.mjs) off the statement by which the dump's own 'gosem.cut.vars' lays the variable. In a bare row this is a premise. The card (YtgiejjpemhceiaaDoorCards.lean) ties it to the program's text. -/
def laid_math_bits_deBruijn64tab {H : Type} : DataW H := .agg [.lit (.int .u8 0), .lit (.int .u8 1), .lit (.int .u8 56), .lit (.int .u8 2), .lit (.int .u8 57), .lit (.int .u8 49), .lit (.int .u8 28), .lit (.int .u8 3), .lit (.int .u8 61), .lit (.int .u8 58), .lit (.int .u8 42), .lit (.int .u8 50), .lit (.int .u8 38), .lit (.int .u8 29), .lit (.int .u8 17), .lit (.int .u8 4), .lit (.int .u8 62), .lit (.int .u8 47), .lit (.int .u8 59), .lit (.int .u8 36), .lit (.int .u8 45), .lit (.int .u8 43), .lit (.int .u8 51), .lit (.int .u8 22), .lit (.int .u8 53), .lit (.int .u8 39), .lit (.int .u8 33), .lit (.int .u8 30), .lit (.int .u8 24), .lit (.int .u8 18), .lit (.int .u8 12), .lit (.int .u8 5), .lit (.int .u8 63), .lit (.int .u8 55), .lit (.int .u8 48), .lit (.int .u8 27), .lit (.int .u8 60), .lit (.int .u8 41), .lit (.int .u8 37), .lit (.int .u8 16), .lit (.int .u8 46), .lit (.int .u8 35), .lit (.int .u8 44), .lit (.int .u8 21), .lit (.int .u8 52), .lit (.int .u8 32), .lit (.int .u8 23), .lit (.int .u8 11), .lit (.int .u8 54), .lit (.int .u8 26), .lit (.int .u8 40), .lit (.int .u8 15), .lit (.int .u8 34), .lit (.int .u8 20), .lit (.int .u8 31), .lit (.int .u8 10), .lit (.int .u8 25), .lit (.int .u8 14), .lit (.int .u8 19), .lit (.int .u8 9), .lit (.int .u8 13), .lit (.int .u8 8), .lit (.int .u8 7), .lit (.int .u8 6)]
def laid_math_bits_deBruijn32tab {H : Type} : DataW H := .agg [.lit (.int .u8 0), .lit (.int .u8 1), .lit (.int .u8 28), .lit (.int .u8 2), .lit (.int .u8 29), .lit (.int .u8 14), .lit (.int .u8 24), .lit (.int .u8 3), .lit (.int .u8 30), .lit (.int .u8 22), .lit (.int .u8 20), .lit (.int .u8 15), .lit (.int .u8 25), .lit (.int .u8 17), .lit (.int .u8 4), .lit (.int .u8 8), .lit (.int .u8 31), .lit (.int .u8 27), .lit (.int .u8 13), .lit (.int .u8 23), .lit (.int .u8 21), .lit (.int .u8 19), .lit (.int .u8 16), .lit (.int .u8 7), .lit (.int .u8 26), .lit (.int .u8 12), .lit (.int .u8 18), .lit (.int .u8 6), .lit (.int .u8 11), .lit (.int .u8 5), .lit (.int .u8 10), .lit (.int .u8 9)]
def laid_internal_strconv_uint64pow10 {H : Type} : DataW H := .agg [.lit (.int .u64 1), .lit (.int .u64 10), .lit (.int .u64 100), .lit (.int .u64 1000), .lit (.int .u64 10000), .lit (.int .u64 100000), .lit (.int .u64 1000000), .lit (.int .u64 10000000), .lit (.int .u64 100000000), .lit (.int .u64 1000000000), .lit (.int .u64 10000000000), .lit (.int .u64 100000000000), .lit (.int .u64 1000000000000), .lit (.int .u64 10000000000000), .lit (.int .u64 100000000000000), .lit (.int .u64 1000000000000000), .lit (.int .u64 10000000000000000), .lit (.int .u64 100000000000000000), .lit (.int .u64 1000000000000000000), .lit (.int .u64 10000000000000000000)]

/-- 'compasslaw7.GapHolds': WHATEVER THE INPUT: true; the input reads as it did. -/
def gapHoldsSpec : ChangeSpec := { name := "gapHolds", fn := fun _ => fun
  | [d1, d2, d3, d4] => { results := [.lit (.bool true)], args := [d1, d2, d3, d4] }
  | _ => none }
def gapHoldsRow : OpenClaim := { program := "ytgiejjpemhceiaadoor", sum := "d9d01cb713c63c3ae20833683ab9655c338bcbae98a25d30f1d51a676b965f9e", func := "compass/compasslaw7.GapHolds", spec := "gapHolds", inPlace := ["math.Float64bits", "math.Float64frombits", "math.sqrt"], named := ["math/bits.deBruijn64tab"], apart := false, laid := [("math/bits.deBruijn64tab", laid_math_bits_deBruijn64tab)] }
def GapHoldsSaid : Prop := gapHoldsRow.holds Tryd.pinned (OpenSpec.ofChange gapHoldsSpec)

/-- ITS FALSE NEIGHBOUR: 'it returns false'. Refute it at one input. -/
def gapHoldsWrong : ChangeSpec := { name := "gapHolds", fn := fun _ => fun
  | [d1, d2, d3, d4] => { results := [.lit (.bool false)], args := [d1, d2, d3, d4] }
  | _ => none }
def GapHoldsWrongFalsely : Prop := gapHoldsRow.holds Tryd.pinned (OpenSpec.ofChange gapHoldsWrong)

/-- 'compasslaw5.BallSigns': WHATEVER THE INPUT: true; the input reads as it did. -/
def ballSignsSpec : ChangeSpec := { name := "ballSigns", fn := fun _ => fun
  | [d1, d2] => { results := [.lit (.bool true)], args := [d1, d2] }
  | _ => none }
def ballSignsRow : OpenClaim := { program := "ytgiejjpemhceiaadoor", sum := "d9d01cb713c63c3ae20833683ab9655c338bcbae98a25d30f1d51a676b965f9e", func := "compass/compasslaw5.BallSigns", spec := "ballSigns", inPlace := ["math/bits.Add64", "math/bits.Sub64"], named := ["math/bits.deBruijn64tab", "math/bits.divideError", "math/bits.overflowError"], apart := false, laid := [("math/bits.deBruijn64tab", laid_math_bits_deBruijn64tab)] }
def BallSignsSaid : Prop := ballSignsRow.holds Tryd.pinned (OpenSpec.ofChange ballSignsSpec)

/-- ITS FALSE NEIGHBOUR: 'it returns false'. Refute it at one input. -/
def ballSignsWrong : ChangeSpec := { name := "ballSigns", fn := fun _ => fun
  | [d1, d2] => { results := [.lit (.bool false)], args := [d1, d2] }
  | _ => none }
def BallSignsWrongFalsely : Prop := ballSignsRow.holds Tryd.pinned (OpenSpec.ofChange ballSignsWrong)

/-- 'compasslaw5.BallShrinks': WHATEVER THE INPUT: true; the input reads as it did. -/
def ballShrinksSpec : ChangeSpec := { name := "ballShrinks", fn := fun _ => fun
  | [d1, d2] => { results := [.lit (.bool true)], args := [d1, d2] }
  | _ => none }
def ballShrinksRow : OpenClaim := { program := "ytgiejjpemhceiaadoor", sum := "d9d01cb713c63c3ae20833683ab9655c338bcbae98a25d30f1d51a676b965f9e", func := "compass/compasslaw5.BallShrinks", spec := "ballShrinks", inPlace := ["math/bits.Add64", "math/bits.Sub64"], recurses := true, named := ["math/bits.deBruijn64tab", "math/bits.divideError", "math/bits.overflowError"], apart := false, laid := [("math/bits.deBruijn64tab", laid_math_bits_deBruijn64tab)] }
def BallShrinksSaid : Prop := ballShrinksRow.holds Tryd.pinned (OpenSpec.ofChange ballShrinksSpec)

/-- ITS FALSE NEIGHBOUR: 'it returns false'. Refute it at one input. -/
def ballShrinksWrong : ChangeSpec := { name := "ballShrinks", fn := fun _ => fun
  | [d1, d2] => { results := [.lit (.bool false)], args := [d1, d2] }
  | _ => none }
def BallShrinksWrongFalsely : Prop := ballShrinksRow.holds Tryd.pinned (OpenSpec.ofChange ballShrinksWrong)

/-- 'compasslaw4.FloTells': WHATEVER THE INPUT: true; the input reads as it did. -/
def floTellsSpec : ChangeSpec := { name := "floTells", fn := fun _ => fun
  | [d1, d2, d3] => { results := [.lit (.bool true)], args := [d1, d2, d3] }
  | _ => none }
def floTellsRow : OpenClaim := { program := "ytgiejjpemhceiaadoor", sum := "d9d01cb713c63c3ae20833683ab9655c338bcbae98a25d30f1d51a676b965f9e", func := "compass/compasslaw4.FloTells", spec := "floTells", inPlace := ["math.Float64bits", "internal/abi.NoEscape", "internal/bytealg.MakeNoZero", "math.Float64frombits", "math/bits.Add64"], recurses := true, named := ["math/bits.deBruijn64tab", "math/bits.divideError", "math/bits.overflowError", "internal/strconv.uint64pow10", "math/bits.deBruijn32tab"], apart := false, laid := [("math/bits.deBruijn32tab", laid_math_bits_deBruijn32tab), ("math/bits.deBruijn64tab", laid_math_bits_deBruijn64tab), ("internal/strconv.uint64pow10", laid_internal_strconv_uint64pow10)] }
def FloTellsSaid : Prop := floTellsRow.holds Tryd.pinned (OpenSpec.ofChange floTellsSpec)

/-- ITS FALSE NEIGHBOUR: 'it returns false'. Refute it at one input. -/
def floTellsWrong : ChangeSpec := { name := "floTells", fn := fun _ => fun
  | [d1, d2, d3] => { results := [.lit (.bool false)], args := [d1, d2, d3] }
  | _ => none }
def FloTellsWrongFalsely : Prop := floTellsRow.holds Tryd.pinned (OpenSpec.ofChange floTellsWrong)

/-- 'compasslaw5.BallHolds': WHATEVER THE INPUT: true; the input reads as it did. -/
def ballHoldsSpec : ChangeSpec := { name := "ballHolds", fn := fun _ => fun
  | [d1, d2, d3] => { results := [.lit (.bool true)], args := [d1, d2, d3] }
  | _ => none }
def ballHoldsRow : OpenClaim := { program := "ytgiejjpemhceiaadoor", sum := "d9d01cb713c63c3ae20833683ab9655c338bcbae98a25d30f1d51a676b965f9e", func := "compass/compasslaw5.BallHolds", spec := "ballHolds", inPlace := ["math/bits.Add64", "math/bits.Sub64"], recurses := true, named := ["math/bits.deBruijn64tab", "math/bits.divideError", "math/bits.overflowError"], apart := false, laid := [("math/bits.deBruijn64tab", laid_math_bits_deBruijn64tab)] }
def BallHoldsSaid : Prop := ballHoldsRow.holds Tryd.pinned (OpenSpec.ofChange ballHoldsSpec)

/-- ITS FALSE NEIGHBOUR: 'it returns false'. Refute it at one input. -/
def ballHoldsWrong : ChangeSpec := { name := "ballHolds", fn := fun _ => fun
  | [d1, d2, d3] => { results := [.lit (.bool false)], args := [d1, d2, d3] }
  | _ => none }
def BallHoldsWrongFalsely : Prop := ballHoldsRow.holds Tryd.pinned (OpenSpec.ofChange ballHoldsWrong)

/-- 'compasslaw2.WholeTells': WHATEVER THE INPUT: true; the input reads as it did. -/
def wholeTellsSpec : ChangeSpec := { name := "wholeTells", fn := fun _ => fun
  | [d1, d2, d3, d4, d5] => { results := [.lit (.bool true)], args := [d1, d2, d3, d4, d5] }
  | _ => none }
def wholeTellsRow : OpenClaim := { program := "ytgiejjpemhceiaadoor", sum := "d9d01cb713c63c3ae20833683ab9655c338bcbae98a25d30f1d51a676b965f9e", func := "compass/compasslaw2.WholeTells", spec := "wholeTells", inPlace := ["math/bits.Add64", "math/bits.Sub64", "internal/abi.NoEscape", "internal/bytealg.MakeNoZero"], recurses := true, named := ["math/bits.divideError", "math/bits.overflowError", "internal/strconv.uint64pow10", "math/bits.deBruijn32tab", "math/bits.deBruijn64tab"], apart := false, laid := [("math/bits.deBruijn32tab", laid_math_bits_deBruijn32tab), ("math/bits.deBruijn64tab", laid_math_bits_deBruijn64tab), ("internal/strconv.uint64pow10", laid_internal_strconv_uint64pow10)] }
def WholeTellsSaid : Prop := wholeTellsRow.holds Tryd.pinned (OpenSpec.ofChange wholeTellsSpec)

/-- ITS FALSE NEIGHBOUR: 'it returns false'. Refute it at one input. -/
def wholeTellsWrong : ChangeSpec := { name := "wholeTells", fn := fun _ => fun
  | [d1, d2, d3, d4, d5] => { results := [.lit (.bool false)], args := [d1, d2, d3, d4, d5] }
  | _ => none }
def WholeTellsWrongFalsely : Prop := wholeTellsRow.holds Tryd.pinned (OpenSpec.ofChange wholeTellsWrong)

/-- 'compasslaw4.FloBetween': WHATEVER THE INPUT: true; the input reads as it did. -/
def floBetweenSpec : ChangeSpec := { name := "floBetween", fn := fun _ => fun
  | [d1, d2] => { results := [.lit (.bool true)], args := [d1, d2] }
  | _ => none }
def floBetweenRow : OpenClaim := { program := "ytgiejjpemhceiaadoor", sum := "d9d01cb713c63c3ae20833683ab9655c338bcbae98a25d30f1d51a676b965f9e", func := "compass/compasslaw4.FloBetween", spec := "floBetween", inPlace := ["math.Float64bits", "internal/abi.NoEscape", "internal/bytealg.MakeNoZero", "math.Float64frombits", "math/bits.Add64"], named := ["math/bits.deBruijn64tab", "math/bits.divideError", "math/bits.overflowError", "internal/strconv.uint64pow10", "math/bits.deBruijn32tab"], apart := false, laid := [("math/bits.deBruijn32tab", laid_math_bits_deBruijn32tab), ("math/bits.deBruijn64tab", laid_math_bits_deBruijn64tab), ("internal/strconv.uint64pow10", laid_internal_strconv_uint64pow10)] }
def FloBetweenSaid : Prop := floBetweenRow.holds Tryd.pinned (OpenSpec.ofChange floBetweenSpec)

/-- ITS FALSE NEIGHBOUR: 'it returns false'. Refute it at one input. -/
def floBetweenWrong : ChangeSpec := { name := "floBetween", fn := fun _ => fun
  | [d1, d2] => { results := [.lit (.bool false)], args := [d1, d2] }
  | _ => none }
def FloBetweenWrongFalsely : Prop := floBetweenRow.holds Tryd.pinned (OpenSpec.ofChange floBetweenWrong)

/-- 'compasslaw4.FloPowers': WHATEVER THE INPUT: true; the input reads as it did. -/
def floPowersSpec : ChangeSpec := { name := "floPowers", fn := fun _ => fun
  | [d] => { results := [.lit (.bool true)], args := [d] }
  | _ => none }
def floPowersRow : OpenClaim := { program := "ytgiejjpemhceiaadoor", sum := "d9d01cb713c63c3ae20833683ab9655c338bcbae98a25d30f1d51a676b965f9e", func := "compass/compasslaw4.FloPowers", spec := "floPowers", inPlace := ["math.Float64bits", "internal/abi.NoEscape", "internal/bytealg.MakeNoZero", "math.Float64frombits", "math/bits.Add64"], named := ["math/bits.deBruijn64tab", "math/bits.divideError", "math/bits.overflowError", "internal/strconv.uint64pow10", "math/bits.deBruijn32tab"], apart := false, laid := [("math/bits.deBruijn32tab", laid_math_bits_deBruijn32tab), ("math/bits.deBruijn64tab", laid_math_bits_deBruijn64tab), ("internal/strconv.uint64pow10", laid_internal_strconv_uint64pow10)] }
def FloPowersSaid : Prop := floPowersRow.holds Tryd.pinned (OpenSpec.ofChange floPowersSpec)

/-- ITS FALSE NEIGHBOUR: 'it returns false'. Refute it at one input. -/
def floPowersWrong : ChangeSpec := { name := "floPowers", fn := fun _ => fun
  | [d] => { results := [.lit (.bool false)], args := [d] }
  | _ => none }
def FloPowersWrongFalsely : Prop := floPowersRow.holds Tryd.pinned (OpenSpec.ofChange floPowersWrong)

/-- 'compasslaw4.FloOrders': WHATEVER THE INPUT: true; the input reads as it did. -/
def floOrdersSpec : ChangeSpec := { name := "floOrders", fn := fun _ => fun
  | [d1, d2] => { results := [.lit (.bool true)], args := [d1, d2] }
  | _ => none }
def floOrdersRow : OpenClaim := { program := "ytgiejjpemhceiaadoor", sum := "d9d01cb713c63c3ae20833683ab9655c338bcbae98a25d30f1d51a676b965f9e", func := "compass/compasslaw4.FloOrders", spec := "floOrders", inPlace := ["math.Float64bits", "internal/abi.NoEscape", "internal/bytealg.MakeNoZero", "math.Float64frombits", "math/bits.Add64", "math/bits.Sub64"], named := ["math/bits.deBruijn64tab", "math/bits.divideError", "math/bits.overflowError", "internal/strconv.uint64pow10", "math/bits.deBruijn32tab"], apart := false, laid := [("math/bits.deBruijn32tab", laid_math_bits_deBruijn32tab), ("math/bits.deBruijn64tab", laid_math_bits_deBruijn64tab), ("internal/strconv.uint64pow10", laid_internal_strconv_uint64pow10)] }
def FloOrdersSaid : Prop := floOrdersRow.holds Tryd.pinned (OpenSpec.ofChange floOrdersSpec)

/-- ITS FALSE NEIGHBOUR: 'it returns false'. Refute it at one input. -/
def floOrdersWrong : ChangeSpec := { name := "floOrders", fn := fun _ => fun
  | [d1, d2] => { results := [.lit (.bool false)], args := [d1, d2] }
  | _ => none }
def FloOrdersWrongFalsely : Prop := floOrdersRow.holds Tryd.pinned (OpenSpec.ofChange floOrdersWrong)

/- THE SECOND FORM. 'bulk': how many values and letters a reading holds, each counted each time it is reached (what is shared counts as often as it is met; a slice's spare places count too). A statement '..UptoSaid' is the law's where the arguments, and the package variables that the reading takes, are together of bulk at most 1048576: NARROWER than '..Said'. Prove '..Said' where nothing that the law and all that it calls make is longer than what came in: it says more and counts as full. Else prove '..UptoSaid'. A law counts once. -/
mutual
def uptoBulk {H : Type} : DataW H → Nat
  | .lit (.string bytes) => bytes.length + 1
  | .lit _ => 1
  | .nil => 1
  | .ptr d => uptoBulk d + 1
  | .slice elems spare => uptoBulkAll elems + uptoBulkAll spare + 1
  | .agg parts => uptoBulkAll parts + 1
  | .iface _ d => uptoBulk d + 1
  | .map entries => uptoBulkEntries entries + 1
  | .held _ => 1
def uptoBulkAll {H : Type} : List (DataW H) → Nat
  | [] => 0
  | d :: r => uptoBulk d + uptoBulkAll r
def uptoBulkEntries {H : Type} : List (Lit × DataW H) → Nat
  | [] => 0
  | x :: r => uptoBulkEntry x + uptoBulkEntries r
def uptoBulkEntry {H : Type} : Lit × DataW H → Nat
  | (.string bytes, d) => bytes.length + uptoBulk d + 1
  | (_, d) => uptoBulk d + 1
 end
def uptoSmall : (H : Type) → List (DataW H) → Bool := fun _ ds => decide (uptoBulkAll ds ≤ 1048576)
def OpenSpec.upto (s : _root_.Go.ChangeSpec) : _root_.Go.OpenSpec := { _root_.Go.OpenSpec.ofChange s with cond := some uptoSmall }

/-- 'compasslaw7.GapHolds', WHERE WHAT IT READS IS OF BULK AT MOST 1048576: true; the input reads as it did. -/
def gapHoldsUptoRow : OpenClaim := { program := "ytgiejjpemhceiaadoor", sum := "d9d01cb713c63c3ae20833683ab9655c338bcbae98a25d30f1d51a676b965f9e", func := "compass/compasslaw7.GapHolds", spec := "gapHolds", inPlace := ["math.Float64bits", "math.Float64frombits", "math.sqrt"], named := ["math/bits.deBruijn64tab"], apart := false, laid := [("math/bits.deBruijn64tab", laid_math_bits_deBruijn64tab)], narrowed := true }
def GapHoldsUptoSaid : Prop := gapHoldsUptoRow.holds Tryd.pinned (OpenSpec.upto gapHoldsSpec)

/-- 'compasslaw5.BallSigns', WHERE WHAT IT READS IS OF BULK AT MOST 1048576: true; the input reads as it did. -/
def ballSignsUptoRow : OpenClaim := { program := "ytgiejjpemhceiaadoor", sum := "d9d01cb713c63c3ae20833683ab9655c338bcbae98a25d30f1d51a676b965f9e", func := "compass/compasslaw5.BallSigns", spec := "ballSigns", inPlace := ["math/bits.Add64", "math/bits.Sub64"], named := ["math/bits.deBruijn64tab", "math/bits.divideError", "math/bits.overflowError"], apart := false, laid := [("math/bits.deBruijn64tab", laid_math_bits_deBruijn64tab)], narrowed := true }
def BallSignsUptoSaid : Prop := ballSignsUptoRow.holds Tryd.pinned (OpenSpec.upto ballSignsSpec)

/-- 'compasslaw5.BallShrinks', WHERE WHAT IT READS IS OF BULK AT MOST 1048576: true; the input reads as it did. -/
def ballShrinksUptoRow : OpenClaim := { program := "ytgiejjpemhceiaadoor", sum := "d9d01cb713c63c3ae20833683ab9655c338bcbae98a25d30f1d51a676b965f9e", func := "compass/compasslaw5.BallShrinks", spec := "ballShrinks", inPlace := ["math/bits.Add64", "math/bits.Sub64"], recurses := true, named := ["math/bits.deBruijn64tab", "math/bits.divideError", "math/bits.overflowError"], apart := false, laid := [("math/bits.deBruijn64tab", laid_math_bits_deBruijn64tab)], narrowed := true }
def BallShrinksUptoSaid : Prop := ballShrinksUptoRow.holds Tryd.pinned (OpenSpec.upto ballShrinksSpec)

/-- 'compasslaw4.FloTells', WHERE WHAT IT READS IS OF BULK AT MOST 1048576: true; the input reads as it did. -/
def floTellsUptoRow : OpenClaim := { program := "ytgiejjpemhceiaadoor", sum := "d9d01cb713c63c3ae20833683ab9655c338bcbae98a25d30f1d51a676b965f9e", func := "compass/compasslaw4.FloTells", spec := "floTells", inPlace := ["math.Float64bits", "internal/abi.NoEscape", "internal/bytealg.MakeNoZero", "math.Float64frombits", "math/bits.Add64"], recurses := true, named := ["math/bits.deBruijn64tab", "math/bits.divideError", "math/bits.overflowError", "internal/strconv.uint64pow10", "math/bits.deBruijn32tab"], apart := false, laid := [("math/bits.deBruijn32tab", laid_math_bits_deBruijn32tab), ("math/bits.deBruijn64tab", laid_math_bits_deBruijn64tab), ("internal/strconv.uint64pow10", laid_internal_strconv_uint64pow10)], narrowed := true }
def FloTellsUptoSaid : Prop := floTellsUptoRow.holds Tryd.pinned (OpenSpec.upto floTellsSpec)

/-- 'compasslaw5.BallHolds', WHERE WHAT IT READS IS OF BULK AT MOST 1048576: true; the input reads as it did. -/
def ballHoldsUptoRow : OpenClaim := { program := "ytgiejjpemhceiaadoor", sum := "d9d01cb713c63c3ae20833683ab9655c338bcbae98a25d30f1d51a676b965f9e", func := "compass/compasslaw5.BallHolds", spec := "ballHolds", inPlace := ["math/bits.Add64", "math/bits.Sub64"], recurses := true, named := ["math/bits.deBruijn64tab", "math/bits.divideError", "math/bits.overflowError"], apart := false, laid := [("math/bits.deBruijn64tab", laid_math_bits_deBruijn64tab)], narrowed := true }
def BallHoldsUptoSaid : Prop := ballHoldsUptoRow.holds Tryd.pinned (OpenSpec.upto ballHoldsSpec)

/-- 'compasslaw2.WholeTells', WHERE WHAT IT READS IS OF BULK AT MOST 1048576: true; the input reads as it did. -/
def wholeTellsUptoRow : OpenClaim := { program := "ytgiejjpemhceiaadoor", sum := "d9d01cb713c63c3ae20833683ab9655c338bcbae98a25d30f1d51a676b965f9e", func := "compass/compasslaw2.WholeTells", spec := "wholeTells", inPlace := ["math/bits.Add64", "math/bits.Sub64", "internal/abi.NoEscape", "internal/bytealg.MakeNoZero"], recurses := true, named := ["math/bits.divideError", "math/bits.overflowError", "internal/strconv.uint64pow10", "math/bits.deBruijn32tab", "math/bits.deBruijn64tab"], apart := false, laid := [("math/bits.deBruijn32tab", laid_math_bits_deBruijn32tab), ("math/bits.deBruijn64tab", laid_math_bits_deBruijn64tab), ("internal/strconv.uint64pow10", laid_internal_strconv_uint64pow10)], narrowed := true }
def WholeTellsUptoSaid : Prop := wholeTellsUptoRow.holds Tryd.pinned (OpenSpec.upto wholeTellsSpec)

/-- 'compasslaw4.FloBetween', WHERE WHAT IT READS IS OF BULK AT MOST 1048576: true; the input reads as it did. -/
def floBetweenUptoRow : OpenClaim := { program := "ytgiejjpemhceiaadoor", sum := "d9d01cb713c63c3ae20833683ab9655c338bcbae98a25d30f1d51a676b965f9e", func := "compass/compasslaw4.FloBetween", spec := "floBetween", inPlace := ["math.Float64bits", "internal/abi.NoEscape", "internal/bytealg.MakeNoZero", "math.Float64frombits", "math/bits.Add64"], named := ["math/bits.deBruijn64tab", "math/bits.divideError", "math/bits.overflowError", "internal/strconv.uint64pow10", "math/bits.deBruijn32tab"], apart := false, laid := [("math/bits.deBruijn32tab", laid_math_bits_deBruijn32tab), ("math/bits.deBruijn64tab", laid_math_bits_deBruijn64tab), ("internal/strconv.uint64pow10", laid_internal_strconv_uint64pow10)], narrowed := true }
def FloBetweenUptoSaid : Prop := floBetweenUptoRow.holds Tryd.pinned (OpenSpec.upto floBetweenSpec)

/-- 'compasslaw4.FloPowers', WHERE WHAT IT READS IS OF BULK AT MOST 1048576: true; the input reads as it did. -/
def floPowersUptoRow : OpenClaim := { program := "ytgiejjpemhceiaadoor", sum := "d9d01cb713c63c3ae20833683ab9655c338bcbae98a25d30f1d51a676b965f9e", func := "compass/compasslaw4.FloPowers", spec := "floPowers", inPlace := ["math.Float64bits", "internal/abi.NoEscape", "internal/bytealg.MakeNoZero", "math.Float64frombits", "math/bits.Add64"], named := ["math/bits.deBruijn64tab", "math/bits.divideError", "math/bits.overflowError", "internal/strconv.uint64pow10", "math/bits.deBruijn32tab"], apart := false, laid := [("math/bits.deBruijn32tab", laid_math_bits_deBruijn32tab), ("math/bits.deBruijn64tab", laid_math_bits_deBruijn64tab), ("internal/strconv.uint64pow10", laid_internal_strconv_uint64pow10)], narrowed := true }
def FloPowersUptoSaid : Prop := floPowersUptoRow.holds Tryd.pinned (OpenSpec.upto floPowersSpec)

/-- 'compasslaw4.FloOrders', WHERE WHAT IT READS IS OF BULK AT MOST 1048576: true; the input reads as it did. -/
def floOrdersUptoRow : OpenClaim := { program := "ytgiejjpemhceiaadoor", sum := "d9d01cb713c63c3ae20833683ab9655c338bcbae98a25d30f1d51a676b965f9e", func := "compass/compasslaw4.FloOrders", spec := "floOrders", inPlace := ["math.Float64bits", "internal/abi.NoEscape", "internal/bytealg.MakeNoZero", "math.Float64frombits", "math/bits.Add64", "math/bits.Sub64"], named := ["math/bits.deBruijn64tab", "math/bits.divideError", "math/bits.overflowError", "internal/strconv.uint64pow10", "math/bits.deBruijn32tab"], apart := false, laid := [("math/bits.deBruijn32tab", laid_math_bits_deBruijn32tab), ("math/bits.deBruijn64tab", laid_math_bits_deBruijn64tab), ("internal/strconv.uint64pow10", laid_internal_strconv_uint64pow10)], narrowed := true }
def FloOrdersUptoSaid : Prop := floOrdersUptoRow.holds Tryd.pinned (OpenSpec.upto floOrdersSpec)

end Rows
end Go.Proofs.YtgiejjpemhceiaaDoor
