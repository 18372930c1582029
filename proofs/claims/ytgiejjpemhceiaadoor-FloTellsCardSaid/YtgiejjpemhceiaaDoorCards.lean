/-
  DERIVED. GIVEN WITH THE SEED: THE CARDS: each row of YtgiejjpemhceiaaDoorRows.lean that lists a variable, with what it lists TIED to the program's text (the seventh form; the later family's looks); each row that meets fmt, with fmt's text TOLD by the authors' own Lean function (tested against real Go, not proved from fmt's source: count such statements apart). THE CARD IS WHAT COUNTS. Prove the row's statement (the work); the ties are given (YtgiejjpemhceiaaDoorTie.lean); close each card by the builder's one call (the guide's Derived/Test/ToyasCard.lean, 'card_holds'). Laid BY PROGRAM, IN A SANDBOX (cutbox-door.mjs). By AI agents, Wed Nov 11 2026. No macro, syntax, notation, axiom, sorry.
-/
import Derived.Test.YtgiejjpemhceiaaDoorRows
import GoSem.ClaimSeven
namespace Go.Proofs.YtgiejjpemhceiaaDoor
namespace Rows

/-- THE TIED CARD OF 'compasslaw7.GapHolds'. -/
def gapHoldsCard : Claim7 := { stood := { row := gapHoldsRow, standIns := [], harness := (true, "d6e7e286ba52cf6bbf38648f0e663b7ee878062485eac3bb83ca45df6307abc7"), looks := false }, kinds := [], alts := [], laidByText := true, laidKinds := [.data], laidTests := true, laidLooks := .later }
def GapHoldsCardSaid : Prop := Claim7.holds Tryd.pinned (.plain (OpenSpec.ofChange gapHoldsSpec)) gapHoldsCard

/-- THE TIED CARD OF 'compasslaw5.BallSigns'. -/
def ballSignsCard : Claim7 := { stood := { row := ballSignsRow, standIns := [], harness := (true, "d6e7e286ba52cf6bbf38648f0e663b7ee878062485eac3bb83ca45df6307abc7"), looks := false }, kinds := [], alts := [], laidByText := true, laidKinds := [.data], laidTests := true, laidLooks := .later }
def BallSignsCardSaid : Prop := Claim7.holds Tryd.pinned (.plain (OpenSpec.ofChange ballSignsSpec)) ballSignsCard

/-- THE TIED CARD OF 'compasslaw5.BallShrinks'. -/
def ballShrinksCard : Claim7 := { stood := { row := ballShrinksRow, standIns := [], harness := (true, "d6e7e286ba52cf6bbf38648f0e663b7ee878062485eac3bb83ca45df6307abc7"), looks := false }, kinds := [], alts := [], laidByText := true, laidKinds := [.data], laidTests := true, laidLooks := .later }
def BallShrinksCardSaid : Prop := Claim7.holds Tryd.pinned (.plain (OpenSpec.ofChange ballShrinksSpec)) ballShrinksCard

/-- THE TIED CARD OF 'compasslaw4.FloTells'. -/
def floTellsCard : Claim7 := { stood := { row := floTellsRow, standIns := [], harness := (true, "d6e7e286ba52cf6bbf38648f0e663b7ee878062485eac3bb83ca45df6307abc7"), looks := false }, kinds := [], alts := [], laidByText := true, laidKinds := [.data, .data, .data], laidTests := true, laidLooks := .later }
def FloTellsCardSaid : Prop := Claim7.holds Tryd.pinned (.plain (OpenSpec.ofChange floTellsSpec)) floTellsCard

/-- THE TIED CARD OF 'compasslaw5.BallHolds'. -/
def ballHoldsCard : Claim7 := { stood := { row := ballHoldsRow, standIns := [], harness := (true, "d6e7e286ba52cf6bbf38648f0e663b7ee878062485eac3bb83ca45df6307abc7"), looks := false }, kinds := [], alts := [], laidByText := true, laidKinds := [.data], laidTests := true, laidLooks := .later }
def BallHoldsCardSaid : Prop := Claim7.holds Tryd.pinned (.plain (OpenSpec.ofChange ballHoldsSpec)) ballHoldsCard

/-- THE TIED CARD OF 'compasslaw2.WholeTells'. -/
def wholeTellsCard : Claim7 := { stood := { row := wholeTellsRow, standIns := [], harness := (true, "d6e7e286ba52cf6bbf38648f0e663b7ee878062485eac3bb83ca45df6307abc7"), looks := false }, kinds := [], alts := [], laidByText := true, laidKinds := [.data, .data, .data], laidTests := true, laidLooks := .later }
def WholeTellsCardSaid : Prop := Claim7.holds Tryd.pinned (.plain (OpenSpec.ofChange wholeTellsSpec)) wholeTellsCard

/-- THE TIED CARD OF 'compasslaw4.FloBetween'. -/
def floBetweenCard : Claim7 := { stood := { row := floBetweenRow, standIns := [], harness := (true, "d6e7e286ba52cf6bbf38648f0e663b7ee878062485eac3bb83ca45df6307abc7"), looks := false }, kinds := [], alts := [], laidByText := true, laidKinds := [.data, .data, .data], laidTests := true, laidLooks := .later }
def FloBetweenCardSaid : Prop := Claim7.holds Tryd.pinned (.plain (OpenSpec.ofChange floBetweenSpec)) floBetweenCard

/-- THE TIED CARD OF 'compasslaw4.FloPowers'. -/
def floPowersCard : Claim7 := { stood := { row := floPowersRow, standIns := [], harness := (true, "d6e7e286ba52cf6bbf38648f0e663b7ee878062485eac3bb83ca45df6307abc7"), looks := false }, kinds := [], alts := [], laidByText := true, laidKinds := [.data, .data, .data], laidTests := true, laidLooks := .later }
def FloPowersCardSaid : Prop := Claim7.holds Tryd.pinned (.plain (OpenSpec.ofChange floPowersSpec)) floPowersCard

/-- THE TIED CARD OF 'compasslaw4.FloOrders'. -/
def floOrdersCard : Claim7 := { stood := { row := floOrdersRow, standIns := [], harness := (true, "d6e7e286ba52cf6bbf38648f0e663b7ee878062485eac3bb83ca45df6307abc7"), looks := false }, kinds := [], alts := [], laidByText := true, laidKinds := [.data, .data, .data], laidTests := true, laidLooks := .later }
def FloOrdersCardSaid : Prop := Claim7.holds Tryd.pinned (.plain (OpenSpec.ofChange floOrdersSpec)) floOrdersCard

/-- THE SECOND FORM's CARD OF 'compasslaw7.GapHolds'. -/
def gapHoldsUptoCard : Claim7 := { stood := { row := gapHoldsUptoRow, standIns := [], harness := (true, "d6e7e286ba52cf6bbf38648f0e663b7ee878062485eac3bb83ca45df6307abc7"), looks := false }, kinds := [], alts := [], laidByText := true, laidKinds := [.data], laidTests := true, laidLooks := .later }
def GapHoldsUptoCardSaid : Prop := Claim7.holds Tryd.pinned (.plain (OpenSpec.upto gapHoldsSpec)) gapHoldsUptoCard

/-- THE SECOND FORM's CARD OF 'compasslaw5.BallSigns'. -/
def ballSignsUptoCard : Claim7 := { stood := { row := ballSignsUptoRow, standIns := [], harness := (true, "d6e7e286ba52cf6bbf38648f0e663b7ee878062485eac3bb83ca45df6307abc7"), looks := false }, kinds := [], alts := [], laidByText := true, laidKinds := [.data], laidTests := true, laidLooks := .later }
def BallSignsUptoCardSaid : Prop := Claim7.holds Tryd.pinned (.plain (OpenSpec.upto ballSignsSpec)) ballSignsUptoCard

/-- THE SECOND FORM's CARD OF 'compasslaw5.BallShrinks'. -/
def ballShrinksUptoCard : Claim7 := { stood := { row := ballShrinksUptoRow, standIns := [], harness := (true, "d6e7e286ba52cf6bbf38648f0e663b7ee878062485eac3bb83ca45df6307abc7"), looks := false }, kinds := [], alts := [], laidByText := true, laidKinds := [.data], laidTests := true, laidLooks := .later }
def BallShrinksUptoCardSaid : Prop := Claim7.holds Tryd.pinned (.plain (OpenSpec.upto ballShrinksSpec)) ballShrinksUptoCard

/-- THE SECOND FORM's CARD OF 'compasslaw4.FloTells'. -/
def floTellsUptoCard : Claim7 := { stood := { row := floTellsUptoRow, standIns := [], harness := (true, "d6e7e286ba52cf6bbf38648f0e663b7ee878062485eac3bb83ca45df6307abc7"), looks := false }, kinds := [], alts := [], laidByText := true, laidKinds := [.data, .data, .data], laidTests := true, laidLooks := .later }
def FloTellsUptoCardSaid : Prop := Claim7.holds Tryd.pinned (.plain (OpenSpec.upto floTellsSpec)) floTellsUptoCard

/-- THE SECOND FORM's CARD OF 'compasslaw5.BallHolds'. -/
def ballHoldsUptoCard : Claim7 := { stood := { row := ballHoldsUptoRow, standIns := [], harness := (true, "d6e7e286ba52cf6bbf38648f0e663b7ee878062485eac3bb83ca45df6307abc7"), looks := false }, kinds := [], alts := [], laidByText := true, laidKinds := [.data], laidTests := true, laidLooks := .later }
def BallHoldsUptoCardSaid : Prop := Claim7.holds Tryd.pinned (.plain (OpenSpec.upto ballHoldsSpec)) ballHoldsUptoCard

/-- THE SECOND FORM's CARD OF 'compasslaw2.WholeTells'. -/
def wholeTellsUptoCard : Claim7 := { stood := { row := wholeTellsUptoRow, standIns := [], harness := (true, "d6e7e286ba52cf6bbf38648f0e663b7ee878062485eac3bb83ca45df6307abc7"), looks := false }, kinds := [], alts := [], laidByText := true, laidKinds := [.data, .data, .data], laidTests := true, laidLooks := .later }
def WholeTellsUptoCardSaid : Prop := Claim7.holds Tryd.pinned (.plain (OpenSpec.upto wholeTellsSpec)) wholeTellsUptoCard

/-- THE SECOND FORM's CARD OF 'compasslaw4.FloBetween'. -/
def floBetweenUptoCard : Claim7 := { stood := { row := floBetweenUptoRow, standIns := [], harness := (true, "d6e7e286ba52cf6bbf38648f0e663b7ee878062485eac3bb83ca45df6307abc7"), looks := false }, kinds := [], alts := [], laidByText := true, laidKinds := [.data, .data, .data], laidTests := true, laidLooks := .later }
def FloBetweenUptoCardSaid : Prop := Claim7.holds Tryd.pinned (.plain (OpenSpec.upto floBetweenSpec)) floBetweenUptoCard

/-- THE SECOND FORM's CARD OF 'compasslaw4.FloPowers'. -/
def floPowersUptoCard : Claim7 := { stood := { row := floPowersUptoRow, standIns := [], harness := (true, "d6e7e286ba52cf6bbf38648f0e663b7ee878062485eac3bb83ca45df6307abc7"), looks := false }, kinds := [], alts := [], laidByText := true, laidKinds := [.data, .data, .data], laidTests := true, laidLooks := .later }
def FloPowersUptoCardSaid : Prop := Claim7.holds Tryd.pinned (.plain (OpenSpec.upto floPowersSpec)) floPowersUptoCard

/-- THE SECOND FORM's CARD OF 'compasslaw4.FloOrders'. -/
def floOrdersUptoCard : Claim7 := { stood := { row := floOrdersUptoRow, standIns := [], harness := (true, "d6e7e286ba52cf6bbf38648f0e663b7ee878062485eac3bb83ca45df6307abc7"), looks := false }, kinds := [], alts := [], laidByText := true, laidKinds := [.data, .data, .data], laidTests := true, laidLooks := .later }
def FloOrdersUptoCardSaid : Prop := Claim7.holds Tryd.pinned (.plain (OpenSpec.upto floOrdersSpec)) floOrdersUptoCard
end Rows
end Go.Proofs.YtgiejjpemhceiaaDoor
