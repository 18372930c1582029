/-
  DERIVED. GIVEN WITH THE SEED: THE CARDS: each row of YtcknigodcjjahaaDoorRows.lean that lists a variable, with what it lists TIED to the program's text (the seventh form; the later family's looks); each row that meets fmt, with fmt's text TOLD by the authors' own Lean function (tested against real Go, not proved from fmt's source: count such statements apart). THE CARD IS WHAT COUNTS. Prove the row's statement (the work); the ties are given (YtcknigodcjjahaaDoorTie.lean); close each card by the builder's one call (the guide's Derived/Test/ToyasCard.lean, 'card_holds'). Laid BY PROGRAM, IN A SANDBOX (cutbox-door.mjs). By AI agents, Wed Nov 11 2026. No macro, syntax, notation, axiom, sorry.
-/
import Derived.Test.YtcknigodcjjahaaDoorRows
import GoSem.ClaimSeven
namespace Go.Proofs.YtcknigodcjjahaaDoor
namespace Rows

/-- THE TIED CARD OF 'compasslaw1.NatShifts'. -/
def natShiftsCard : Claim7 := { stood := { row := natShiftsRow, standIns := [], harness := (true, "e63a56974dc2fe1fc6cfc561deb400ae17bdbec8c1f32c87c03eeb8ce83c8081"), looks := false }, kinds := [], alts := [], laidByText := true, laidKinds := [.data, .data, .data], laidTests := true, laidLooks := .later }
def NatShiftsCardSaid : Prop := Claim7.holds Tryd.pinned (.plain (OpenSpec.ofChange natShiftsSpec)) natShiftsCard

/-- THE TIED CARD OF 'compasslaw1.NatSums'. -/
def natSumsCard : Claim7 := { stood := { row := natSumsRow, standIns := [], harness := (true, "e63a56974dc2fe1fc6cfc561deb400ae17bdbec8c1f32c87c03eeb8ce83c8081"), looks := false }, kinds := [], alts := [], laidByText := true, laidKinds := [.data, .data, .data], laidTests := true, laidLooks := .later }
def NatSumsCardSaid : Prop := Claim7.holds Tryd.pinned (.plain (OpenSpec.ofChange natSumsSpec)) natSumsCard

/-- THE TIED CARD OF 'compasslaw2.WholeShifts'. -/
def wholeShiftsCard : Claim7 := { stood := { row := wholeShiftsRow, standIns := [], harness := (true, "e63a56974dc2fe1fc6cfc561deb400ae17bdbec8c1f32c87c03eeb8ce83c8081"), looks := false }, kinds := [], alts := [], laidByText := true, laidKinds := [.data, .data, .data], laidTests := true, laidLooks := .later }
def WholeShiftsCardSaid : Prop := Claim7.holds Tryd.pinned (.plain (OpenSpec.ofChange wholeShiftsSpec)) wholeShiftsCard

/-- THE TIED CARD OF 'compasslaw2.WholeTells'. -/
def wholeTellsCard : Claim7 := { stood := { row := wholeTellsRow, standIns := [], harness := (true, "e63a56974dc2fe1fc6cfc561deb400ae17bdbec8c1f32c87c03eeb8ce83c8081"), looks := false }, kinds := [], alts := [], laidByText := true, laidKinds := [.data, .data, .data], laidTests := true, laidLooks := .later }
def WholeTellsCardSaid : Prop := Claim7.holds Tryd.pinned (.plain (OpenSpec.ofChange wholeTellsSpec)) wholeTellsCard

/-- THE TIED CARD OF 'compasslaw3.DyadTops'. -/
def dyadTopsCard : Claim7 := { stood := { row := dyadTopsRow, standIns := [], harness := (true, "e63a56974dc2fe1fc6cfc561deb400ae17bdbec8c1f32c87c03eeb8ce83c8081"), looks := false }, kinds := [], alts := [], laidByText := true, laidKinds := [.data, .data, .data], laidTests := true, laidLooks := .later }
def DyadTopsCardSaid : Prop := Claim7.holds Tryd.pinned (.plain (OpenSpec.ofChange dyadTopsSpec)) dyadTopsCard

/-- THE SECOND FORM's CARD OF 'compasslaw1.NatShifts'. -/
def natShiftsUptoCard : Claim7 := { stood := { row := natShiftsUptoRow, standIns := [], harness := (true, "e63a56974dc2fe1fc6cfc561deb400ae17bdbec8c1f32c87c03eeb8ce83c8081"), looks := false }, kinds := [], alts := [], laidByText := true, laidKinds := [.data, .data, .data], laidTests := true, laidLooks := .later }
def NatShiftsUptoCardSaid : Prop := Claim7.holds Tryd.pinned (.plain (OpenSpec.upto natShiftsSpec)) natShiftsUptoCard

/-- THE SECOND FORM's CARD OF 'compasslaw1.NatSums'. -/
def natSumsUptoCard : Claim7 := { stood := { row := natSumsUptoRow, standIns := [], harness := (true, "e63a56974dc2fe1fc6cfc561deb400ae17bdbec8c1f32c87c03eeb8ce83c8081"), looks := false }, kinds := [], alts := [], laidByText := true, laidKinds := [.data, .data, .data], laidTests := true, laidLooks := .later }
def NatSumsUptoCardSaid : Prop := Claim7.holds Tryd.pinned (.plain (OpenSpec.upto natSumsSpec)) natSumsUptoCard

/-- THE SECOND FORM's CARD OF 'compasslaw2.WholeShifts'. -/
def wholeShiftsUptoCard : Claim7 := { stood := { row := wholeShiftsUptoRow, standIns := [], harness := (true, "e63a56974dc2fe1fc6cfc561deb400ae17bdbec8c1f32c87c03eeb8ce83c8081"), looks := false }, kinds := [], alts := [], laidByText := true, laidKinds := [.data, .data, .data], laidTests := true, laidLooks := .later }
def WholeShiftsUptoCardSaid : Prop := Claim7.holds Tryd.pinned (.plain (OpenSpec.upto wholeShiftsSpec)) wholeShiftsUptoCard

/-- THE SECOND FORM's CARD OF 'compasslaw2.WholeTells'. -/
def wholeTellsUptoCard : Claim7 := { stood := { row := wholeTellsUptoRow, standIns := [], harness := (true, "e63a56974dc2fe1fc6cfc561deb400ae17bdbec8c1f32c87c03eeb8ce83c8081"), looks := false }, kinds := [], alts := [], laidByText := true, laidKinds := [.data, .data, .data], laidTests := true, laidLooks := .later }
def WholeTellsUptoCardSaid : Prop := Claim7.holds Tryd.pinned (.plain (OpenSpec.upto wholeTellsSpec)) wholeTellsUptoCard

/-- THE SECOND FORM's CARD OF 'compasslaw3.DyadTops'. -/
def dyadTopsUptoCard : Claim7 := { stood := { row := dyadTopsUptoRow, standIns := [], harness := (true, "e63a56974dc2fe1fc6cfc561deb400ae17bdbec8c1f32c87c03eeb8ce83c8081"), looks := false }, kinds := [], alts := [], laidByText := true, laidKinds := [.data, .data, .data], laidTests := true, laidLooks := .later }
def DyadTopsUptoCardSaid : Prop := Claim7.holds Tryd.pinned (.plain (OpenSpec.upto dyadTopsSpec)) dyadTopsUptoCard
end Rows
end Go.Proofs.YtcknigodcjjahaaDoor
