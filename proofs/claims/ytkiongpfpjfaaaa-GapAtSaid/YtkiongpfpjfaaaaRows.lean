/-
  No cell of these rows narrows 'for every input' (looked for: loops, veiled, ifaces, maps, wideKeys, modest, calm, conditions, laid).
  DERIVED. THE GIVEN ROWS OF THIS SEAT. 4 by the template 'for every input the law returns true; each argument reads behind the call as it read before'; 0 by the template 'total and deterministic' (their statements: YtkiongpfpjfaaaaTotals.lean).
  GIVEN WITH THE SEED: the statements are not yours to turn. If you find one false, say at which input.
  Laid BY PROGRAM, IN A SANDBOX (cutbox-rows.mjs): the forced cells as the released guide's own fill.sh prints them over the translation ef749a60bc681409… (all of the seat's roots in one cut). By AI agents, Wed Nov 11 2026. No macro, syntax, notation, axiom, sorry.
-/
import Derived.Test.YtkiongpfpjfaaaaChecked
import GoSem.Claim
import GoSem.ClaimJoined
import GoSem.ClaimMapViews
import Derived.JoinedTies
import Derived.KernelRfl
namespace Go.Proofs.Ytkiongpfpjfaaaa
/- THE CELL 'sum', in the pinned program and in every row, IS THE sha256 OF THE DUMP (.gsa) THAT YtkiongpfpjfaaaaProg.lean LOADS. Nothing in Lean hashes anything: it is a label: what it is worth is what the hold of that sum in a sandbox is worth. -/
noncomputable def Try.pinned : Pinned := { name := "ytkiongpfpjfaaaa", sum := "ef749a60bc681409b90bf6a9a5e8c10f56a58984480cd1b5e78b02faea772892", checked := Try.checked }
namespace Rows
def none {H : Type} : Left H := { results := [], args := [] }

/-- 'compasslaw9.DagGrows': WHATEVER THE INPUT: true; the input reads as it did. -/
def dagGrowsSpec : ChangeSpec := { name := "dagGrows", fn := fun _ => fun
  | [d1, d2] => { results := [.lit (.bool true)], args := [d1, d2] }
  | _ => none }
def dagGrowsRow : OpenClaim := { program := "ytkiongpfpjfaaaa", sum := "ef749a60bc681409b90bf6a9a5e8c10f56a58984480cd1b5e78b02faea772892", func := "compass/compasslaw9.DagGrows", spec := "dagGrows", inPlace := ["math.Float64bits"], unfollowed := true, recurses := true, plainKeys := false, apart := false }
def DagGrowsSaid : Prop := dagGrowsRow.holds Try.pinned (OpenSpec.ofChange dagGrowsSpec)

/-- ITS FALSE NEIGHBOUR: 'it returns false'. Refute it at one input. -/
def dagGrowsWrong : ChangeSpec := { name := "dagGrows", fn := fun _ => fun
  | [d1, d2] => { results := [.lit (.bool false)], args := [d1, d2] }
  | _ => none }
def DagGrowsWrongFalsely : Prop := dagGrowsRow.holds Try.pinned (OpenSpec.ofChange dagGrowsWrong)

/-- 'compasslaw7.GapAt': WHATEVER THE INPUT: true; the input reads as it did. -/
def gapAtSpec : ChangeSpec := { name := "gapAt", fn := fun _ => fun
  | [d] => { results := [.lit (.bool true)], args := [d] }
  | _ => none }
def gapAtRow : OpenClaim := { program := "ytkiongpfpjfaaaa", sum := "ef749a60bc681409b90bf6a9a5e8c10f56a58984480cd1b5e78b02faea772892", func := "compass/compasslaw7.GapAt", spec := "gapAt", inPlace := ["math.Float64bits", "math.Float64frombits"], plainKeys := false, apart := false }
def GapAtSaid : Prop := gapAtRow.holds Try.pinned (OpenSpec.ofChange gapAtSpec)

/-- ITS FALSE NEIGHBOUR: 'it returns false'. Refute it at one input. -/
def gapAtWrong : ChangeSpec := { name := "gapAt", fn := fun _ => fun
  | [d] => { results := [.lit (.bool false)], args := [d] }
  | _ => none }
def GapAtWrongFalsely : Prop := gapAtRow.holds Try.pinned (OpenSpec.ofChange gapAtWrong)

/-- 'compasslaw9.DagShares': WHATEVER THE INPUT: true; the input reads as it did. -/
def dagSharesSpec : ChangeSpec := { name := "dagShares", fn := fun _ => fun
  | [d1, d2] => { results := [.lit (.bool true)], args := [d1, d2] }
  | _ => none }
def dagSharesRow : OpenClaim := { program := "ytkiongpfpjfaaaa", sum := "ef749a60bc681409b90bf6a9a5e8c10f56a58984480cd1b5e78b02faea772892", func := "compass/compasslaw9.DagShares", spec := "dagShares", inPlace := ["math.Float64bits"], unfollowed := true, recurses := true, plainKeys := false, apart := false }
def DagSharesSaid : Prop := dagSharesRow.holds Try.pinned (OpenSpec.ofChange dagSharesSpec)

/-- ITS FALSE NEIGHBOUR: 'it returns false'. Refute it at one input. -/
def dagSharesWrong : ChangeSpec := { name := "dagShares", fn := fun _ => fun
  | [d1, d2] => { results := [.lit (.bool false)], args := [d1, d2] }
  | _ => none }
def DagSharesWrongFalsely : Prop := dagSharesRow.holds Try.pinned (OpenSpec.ofChange dagSharesWrong)

/-- 'compasslaw9.DagMakes': WHATEVER THE INPUT: true; the input reads as it did. -/
def dagMakesSpec : ChangeSpec := { name := "dagMakes", fn := fun _ => fun
  | [d1, d2, d3] => { results := [.lit (.bool true)], args := [d1, d2, d3] }
  | _ => none }
def dagMakesRow : OpenClaim := { program := "ytkiongpfpjfaaaa", sum := "ef749a60bc681409b90bf6a9a5e8c10f56a58984480cd1b5e78b02faea772892", func := "compass/compasslaw9.DagMakes", spec := "dagMakes", inPlace := ["math.Float64bits"], unfollowed := true, recurses := true, plainKeys := false, apart := false }
def DagMakesSaid : Prop := dagMakesRow.holds Try.pinned (OpenSpec.ofChange dagMakesSpec)

/-- ITS FALSE NEIGHBOUR: 'it returns false'. Refute it at one input. -/
def dagMakesWrong : ChangeSpec := { name := "dagMakes", fn := fun _ => fun
  | [d1, d2, d3] => { results := [.lit (.bool false)], args := [d1, d2, d3] }
  | _ => none }
def DagMakesWrongFalsely : Prop := dagMakesRow.holds Try.pinned (OpenSpec.ofChange dagMakesWrong)

/- THE SECOND FORM. 'bulk': how many values and letters a reading holds, each counted each time it is reached (what is shared counts as often as it is met; a slice's spare places count too). A statement '..UptoSaid' is the law's where the arguments, and the package variables that the reading takes, are together of bulk at most 1048576: NARROWER than '..Said'. Prove '..Said' where nothing that the law and all that it calls make is longer than what came in: it says more and counts as full. Else prove '..UptoSaid'. A law counts once. -/
mutual
def uptoBulk {H : Type} : DataW H → Nat
  | .lit (.string bytes) => bytes.length + 1
  | .lit _ => 1
  | .nil => 1
  | .ptr d => uptoBulk d + 1
  | .slice elems spare => uptoBulkAll elems + uptoBulkAll spare + 1
  | .agg parts => uptoBulkAll parts + 1
  | .iface _ d => uptoBulk d + 1
  | .map entries => uptoBulkEntries entries + 1
  | .held _ => 1
def uptoBulkAll {H : Type} : List (DataW H) → Nat
  | [] => 0
  | d :: r => uptoBulk d + uptoBulkAll r
def uptoBulkEntries {H : Type} : List (Lit × DataW H) → Nat
  | [] => 0
  | x :: r => uptoBulkEntry x + uptoBulkEntries r
def uptoBulkEntry {H : Type} : Lit × DataW H → Nat
  | (.string bytes, d) => bytes.length + uptoBulk d + 1
  | (_, d) => uptoBulk d + 1
 end
def uptoSmall : (H : Type) → List (DataW H) → Bool := fun _ ds => decide (uptoBulkAll ds ≤ 1048576)
def OpenSpec.upto (s : _root_.Go.ChangeSpec) : _root_.Go.OpenSpec := { _root_.Go.OpenSpec.ofChange s with cond := some uptoSmall }

/-- 'compasslaw9.DagGrows', WHERE WHAT IT READS IS OF BULK AT MOST 1048576: true; the input reads as it did. -/
def dagGrowsUptoRow : OpenClaim := { program := "ytkiongpfpjfaaaa", sum := "ef749a60bc681409b90bf6a9a5e8c10f56a58984480cd1b5e78b02faea772892", func := "compass/compasslaw9.DagGrows", spec := "dagGrows", inPlace := ["math.Float64bits"], unfollowed := true, recurses := true, plainKeys := false, apart := false, narrowed := true }
def DagGrowsUptoSaid : Prop := dagGrowsUptoRow.holds Try.pinned (OpenSpec.upto dagGrowsSpec)

/-- 'compasslaw7.GapAt', WHERE WHAT IT READS IS OF BULK AT MOST 1048576: true; the input reads as it did. -/
def gapAtUptoRow : OpenClaim := { program := "ytkiongpfpjfaaaa", sum := "ef749a60bc681409b90bf6a9a5e8c10f56a58984480cd1b5e78b02faea772892", func := "compass/compasslaw7.GapAt", spec := "gapAt", inPlace := ["math.Float64bits", "math.Float64frombits"], plainKeys := false, apart := false, narrowed := true }
def GapAtUptoSaid : Prop := gapAtUptoRow.holds Try.pinned (OpenSpec.upto gapAtSpec)

/-- 'compasslaw9.DagShares', WHERE WHAT IT READS IS OF BULK AT MOST 1048576: true; the input reads as it did. -/
def dagSharesUptoRow : OpenClaim := { program := "ytkiongpfpjfaaaa", sum := "ef749a60bc681409b90bf6a9a5e8c10f56a58984480cd1b5e78b02faea772892", func := "compass/compasslaw9.DagShares", spec := "dagShares", inPlace := ["math.Float64bits"], unfollowed := true, recurses := true, plainKeys := false, apart := false, narrowed := true }
def DagSharesUptoSaid : Prop := dagSharesUptoRow.holds Try.pinned (OpenSpec.upto dagSharesSpec)

/-- 'compasslaw9.DagMakes', WHERE WHAT IT READS IS OF BULK AT MOST 1048576: true; the input reads as it did. -/
def dagMakesUptoRow : OpenClaim := { program := "ytkiongpfpjfaaaa", sum := "ef749a60bc681409b90bf6a9a5e8c10f56a58984480cd1b5e78b02faea772892", func := "compass/compasslaw9.DagMakes", spec := "dagMakes", inPlace := ["math.Float64bits"], unfollowed := true, recurses := true, plainKeys := false, apart := false, narrowed := true }
def DagMakesUptoSaid : Prop := dagMakesUptoRow.holds Try.pinned (OpenSpec.upto dagMakesSpec)

end Rows
end Go.Proofs.Ytkiongpfpjfaaaa
