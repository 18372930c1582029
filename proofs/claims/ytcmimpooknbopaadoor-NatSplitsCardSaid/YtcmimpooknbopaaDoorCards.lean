/-
  DERIVED. GIVEN WITH THE SEED: THE CARDS: each row of YtcmimpooknbopaaDoorRows.lean that lists a variable, with what it lists TIED to the program's text (the seventh form; the later family's looks); each row that meets fmt, with fmt's text TOLD by the authors' own Lean function (tested against real Go, not proved from fmt's source: count such statements apart). THE CARD IS WHAT COUNTS. Prove the row's statement (the work); the ties are given (YtcmimpooknbopaaDoorTie.lean); close each card by the builder's one call (the guide's Derived/Test/ToyasCard.lean, 'card_holds'). Laid BY PROGRAM, IN A SANDBOX (cutbox-door.mjs). By AI agents, Wed Nov 11 2026. No macro, syntax, notation, axiom, sorry.
-/
import Derived.Test.YtcmimpooknbopaaDoorRows
import GoSem.ClaimSeven
namespace Go.Proofs.YtcmimpooknbopaaDoor
namespace Rows

/-- THE TIED CARD OF 'compasslaw1.NatCuts'. -/
def natCutsCard : Claim7 := { stood := { row := natCutsRow, standIns := [], harness := (true, "f6f774e472561f5743aa6e3d6e3c32583f8bff6e1c27e0521e553fdf375c18f7"), looks := false }, kinds := [], alts := [], laidByText := true, laidKinds := [.data, .data, .data], laidTests := true, laidLooks := .later }
def NatCutsCardSaid : Prop := Claim7.holds Tryd.pinned (.plain (OpenSpec.ofChange natCutsSpec)) natCutsCard

/-- THE TIED CARD OF 'compasslaw1.NatDivides'. -/
def natDividesCard : Claim7 := { stood := { row := natDividesRow, standIns := [], harness := (true, "f6f774e472561f5743aa6e3d6e3c32583f8bff6e1c27e0521e553fdf375c18f7"), looks := false }, kinds := [], alts := [], laidByText := true, laidKinds := [.data, .data, .data], laidTests := true, laidLooks := .later }
def NatDividesCardSaid : Prop := Claim7.holds Tryd.pinned (.plain (OpenSpec.ofChange natDividesSpec)) natDividesCard

/-- THE TIED CARD OF 'compasslaw1.NatSums'. -/
def natSumsCard : Claim7 := { stood := { row := natSumsRow, standIns := [], harness := (true, "f6f774e472561f5743aa6e3d6e3c32583f8bff6e1c27e0521e553fdf375c18f7"), looks := false }, kinds := [], alts := [], laidByText := true, laidKinds := [.data, .data, .data], laidTests := true, laidLooks := .later }
def NatSumsCardSaid : Prop := Claim7.holds Tryd.pinned (.plain (OpenSpec.ofChange natSumsSpec)) natSumsCard

/-- THE TIED CARD OF 'compasslaw1.NatSplits'. -/
def natSplitsCard : Claim7 := { stood := { row := natSplitsRow, standIns := [], harness := (true, "f6f774e472561f5743aa6e3d6e3c32583f8bff6e1c27e0521e553fdf375c18f7"), looks := false }, kinds := [], alts := [], laidByText := true, laidKinds := [.data, .data, .data], laidTests := true, laidLooks := .later }
def NatSplitsCardSaid : Prop := Claim7.holds Tryd.pinned (.plain (OpenSpec.ofChange natSplitsSpec)) natSplitsCard

/-- THE TIED CARD OF 'compasslaw1.NatParses'. -/
def natParsesCard : Claim7 := { stood := { row := natParsesRow, standIns := [], harness := (true, "f6f774e472561f5743aa6e3d6e3c32583f8bff6e1c27e0521e553fdf375c18f7"), looks := false }, kinds := [], alts := [], laidByText := true, laidKinds := [.data, .data, .data], laidTests := true, laidLooks := .later }
def NatParsesCardSaid : Prop := Claim7.holds Tryd.pinned (.plain (OpenSpec.ofChange natParsesSpec)) natParsesCard

/-- THE TIED CARD OF 'compasslaw1.NatShifts'. -/
def natShiftsCard : Claim7 := { stood := { row := natShiftsRow, standIns := [], harness := (true, "f6f774e472561f5743aa6e3d6e3c32583f8bff6e1c27e0521e553fdf375c18f7"), looks := false }, kinds := [], alts := [], laidByText := true, laidKinds := [.data, .data, .data], laidTests := true, laidLooks := .later }
def NatShiftsCardSaid : Prop := Claim7.holds Tryd.pinned (.plain (OpenSpec.ofChange natShiftsSpec)) natShiftsCard

/-- THE TIED CARD OF 'compasslaw1.NatPowers'. -/
def natPowersCard : Claim7 := { stood := { row := natPowersRow, standIns := [], harness := (true, "f6f774e472561f5743aa6e3d6e3c32583f8bff6e1c27e0521e553fdf375c18f7"), looks := false }, kinds := [], alts := [], laidByText := true, laidKinds := [.data, .data, .data], laidTests := true, laidLooks := .later }
def NatPowersCardSaid : Prop := Claim7.holds Tryd.pinned (.plain (OpenSpec.ofChange natPowersSpec)) natPowersCard

/-- THE SECOND FORM's CARD OF 'compasslaw1.NatCuts'. -/
def natCutsUptoCard : Claim7 := { stood := { row := natCutsUptoRow, standIns := [], harness := (true, "f6f774e472561f5743aa6e3d6e3c32583f8bff6e1c27e0521e553fdf375c18f7"), looks := false }, kinds := [], alts := [], laidByText := true, laidKinds := [.data, .data, .data], laidTests := true, laidLooks := .later }
def NatCutsUptoCardSaid : Prop := Claim7.holds Tryd.pinned (.plain (OpenSpec.upto natCutsSpec)) natCutsUptoCard

/-- THE SECOND FORM's CARD OF 'compasslaw1.NatDivides'. -/
def natDividesUptoCard : Claim7 := { stood := { row := natDividesUptoRow, standIns := [], harness := (true, "f6f774e472561f5743aa6e3d6e3c32583f8bff6e1c27e0521e553fdf375c18f7"), looks := false }, kinds := [], alts := [], laidByText := true, laidKinds := [.data, .data, .data], laidTests := true, laidLooks := .later }
def NatDividesUptoCardSaid : Prop := Claim7.holds Tryd.pinned (.plain (OpenSpec.upto natDividesSpec)) natDividesUptoCard

/-- THE SECOND FORM's CARD OF 'compasslaw1.NatSums'. -/
def natSumsUptoCard : Claim7 := { stood := { row := natSumsUptoRow, standIns := [], harness := (true, "f6f774e472561f5743aa6e3d6e3c32583f8bff6e1c27e0521e553fdf375c18f7"), looks := false }, kinds := [], alts := [], laidByText := true, laidKinds := [.data, .data, .data], laidTests := true, laidLooks := .later }
def NatSumsUptoCardSaid : Prop := Claim7.holds Tryd.pinned (.plain (OpenSpec.upto natSumsSpec)) natSumsUptoCard

/-- THE SECOND FORM's CARD OF 'compasslaw1.NatSplits'. -/
def natSplitsUptoCard : Claim7 := { stood := { row := natSplitsUptoRow, standIns := [], harness := (true, "f6f774e472561f5743aa6e3d6e3c32583f8bff6e1c27e0521e553fdf375c18f7"), looks := false }, kinds := [], alts := [], laidByText := true, laidKinds := [.data, .data, .data], laidTests := true, laidLooks := .later }
def NatSplitsUptoCardSaid : Prop := Claim7.holds Tryd.pinned (.plain (OpenSpec.upto natSplitsSpec)) natSplitsUptoCard

/-- THE SECOND FORM's CARD OF 'compasslaw1.NatParses'. -/
def natParsesUptoCard : Claim7 := { stood := { row := natParsesUptoRow, standIns := [], harness := (true, "f6f774e472561f5743aa6e3d6e3c32583f8bff6e1c27e0521e553fdf375c18f7"), looks := false }, kinds := [], alts := [], laidByText := true, laidKinds := [.data, .data, .data], laidTests := true, laidLooks := .later }
def NatParsesUptoCardSaid : Prop := Claim7.holds Tryd.pinned (.plain (OpenSpec.upto natParsesSpec)) natParsesUptoCard

/-- THE SECOND FORM's CARD OF 'compasslaw1.NatShifts'. -/
def natShiftsUptoCard : Claim7 := { stood := { row := natShiftsUptoRow, standIns := [], harness := (true, "f6f774e472561f5743aa6e3d6e3c32583f8bff6e1c27e0521e553fdf375c18f7"), looks := false }, kinds := [], alts := [], laidByText := true, laidKinds := [.data, .data, .data], laidTests := true, laidLooks := .later }
def NatShiftsUptoCardSaid : Prop := Claim7.holds Tryd.pinned (.plain (OpenSpec.upto natShiftsSpec)) natShiftsUptoCard

/-- THE SECOND FORM's CARD OF 'compasslaw1.NatPowers'. -/
def natPowersUptoCard : Claim7 := { stood := { row := natPowersUptoRow, standIns := [], harness := (true, "f6f774e472561f5743aa6e3d6e3c32583f8bff6e1c27e0521e553fdf375c18f7"), looks := false }, kinds := [], alts := [], laidByText := true, laidKinds := [.data, .data, .data], laidTests := true, laidLooks := .later }
def NatPowersUptoCardSaid : Prop := Claim7.holds Tryd.pinned (.plain (OpenSpec.upto natPowersSpec)) natPowersUptoCard
end Rows
end Go.Proofs.YtcmimpooknbopaaDoor
