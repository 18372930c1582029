/-
  DERIVED. GIVEN WITH THE SEED: THE CARDS: each row of YtkiongpfpjfaaaaDoorRows.lean that lists a variable, with what it lists TIED to the program's text (the seventh form; the later family's looks); each row that meets fmt, with fmt's text TOLD by the authors' own Lean function (tested against real Go, not proved from fmt's source: count such statements apart). THE CARD IS WHAT COUNTS. Prove the row's statement (the work); the ties are given (YtkiongpfpjfaaaaDoorTie.lean); close each card by the builder's one call (the guide's Derived/Test/ToyasCard.lean, 'card_holds'). Laid BY PROGRAM, IN A SANDBOX (cutbox-door.mjs). By AI agents, Wed Nov 11 2026. No macro, syntax, notation, axiom, sorry.
-/
import Derived.Test.YtkiongpfpjfaaaaDoorRows
import GoSem.ClaimSeven
namespace Go.Proofs.YtkiongpfpjfaaaaDoor
namespace Rows

/-- THE TIED CARD OF 'compasslaw9.DagPlays'. -/
def dagPlaysCard : Claim7 := { stood := { row := dagPlaysRow, standIns := [], harness := (true, "8193918b4dc4246eaf153e0f72fe3ac2471c2100b0345fe83c41a4e69fe76030"), looks := true }, kinds := [], alts := [], laidByText := true, laidKinds := [.handle], laidTests := true, laidLooks := .later }
def DagPlaysCardSaid : Prop := Claim7.holds Tryd.pinned (.plain (OpenSpec.ofChange dagPlaysSpec)) dagPlaysCard

/-- THE TIED CARD OF 'compasslaw9.DagLoads'. -/
def dagLoadsCard : Claim7 := { stood := { row := dagLoadsRow, standIns := [], harness := (true, "8193918b4dc4246eaf153e0f72fe3ac2471c2100b0345fe83c41a4e69fe76030"), looks := true }, kinds := [], alts := [], laidByText := true, laidKinds := [.handle], laidTests := true, laidLooks := .later }
def DagLoadsCardSaid : Prop := Claim7.holds Tryd.pinned (.plain (OpenSpec.ofChange dagLoadsSpec)) dagLoadsCard

/-- THE SECOND FORM's CARD OF 'compasslaw9.DagPlays'. -/
def dagPlaysUptoCard : Claim7 := { stood := { row := dagPlaysUptoRow, standIns := [], harness := (true, "8193918b4dc4246eaf153e0f72fe3ac2471c2100b0345fe83c41a4e69fe76030"), looks := true }, kinds := [], alts := [], laidByText := true, laidKinds := [.handle], laidTests := true, laidLooks := .later }
def DagPlaysUptoCardSaid : Prop := Claim7.holds Tryd.pinned (.plain (OpenSpec.upto dagPlaysSpec)) dagPlaysUptoCard

/-- THE SECOND FORM's CARD OF 'compasslaw9.DagLoads'. -/
def dagLoadsUptoCard : Claim7 := { stood := { row := dagLoadsUptoRow, standIns := [], harness := (true, "8193918b4dc4246eaf153e0f72fe3ac2471c2100b0345fe83c41a4e69fe76030"), looks := true }, kinds := [], alts := [], laidByText := true, laidKinds := [.handle], laidTests := true, laidLooks := .later }
def DagLoadsUptoCardSaid : Prop := Claim7.holds Tryd.pinned (.plain (OpenSpec.upto dagLoadsSpec)) dagLoadsUptoCard
end Rows
end Go.Proofs.YtkiongpfpjfaaaaDoor
