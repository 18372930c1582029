/-
  DERIVED. GIVEN WITH THE SEED: THE CARDS: each row of YtkibkmdgibemkaaDoorRows.lean that lists a variable, with what it lists TIED to the program's text (the seventh form; the later family's looks); each row that meets fmt, with fmt's text TOLD by the authors' own Lean function (tested against real Go, not proved from fmt's source: count such statements apart). THE CARD IS WHAT COUNTS. Prove the row's statement (the work); the ties are given (YtkibkmdgibemkaaDoorTie.lean); close each card by the builder's one call (the guide's Derived/Test/ToyasCard.lean, 'card_holds'). Laid BY PROGRAM, IN A SANDBOX (cutbox-door.mjs). By AI agents, Wed Nov 11 2026. No macro, syntax, notation, axiom, sorry.
-/
import Derived.Test.YtkibkmdgibemkaaDoorRows
import GoSem.ClaimSeven
namespace Go.Proofs.YtkibkmdgibemkaaDoor
namespace Rows

/-- THE TIED CARD OF 'compasslaw7.GapHolds'. -/
def gapHoldsCard : Claim7 := { stood := { row := gapHoldsRow, standIns := [], harness := (true, "a8a07f2edd374595c4d1c99cbfcbb050327074fd297ed6900a6c7818f70d4496"), looks := false }, kinds := [], alts := [], laidByText := true, laidKinds := [.data], laidTests := true, laidLooks := .later }
def GapHoldsCardSaid : Prop := Claim7.holds Tryd.pinned (.plain (OpenSpec.ofChange gapHoldsSpec)) gapHoldsCard

/-- THE TIED CARD OF 'compasslaw2.WholeTells'. -/
def wholeTellsCard : Claim7 := { stood := { row := wholeTellsRow, standIns := [], harness := (true, "a8a07f2edd374595c4d1c99cbfcbb050327074fd297ed6900a6c7818f70d4496"), looks := false }, kinds := [], alts := [], laidByText := true, laidKinds := [.data, .data, .data], laidTests := true, laidLooks := .later }
def WholeTellsCardSaid : Prop := Claim7.holds Tryd.pinned (.plain (OpenSpec.ofChange wholeTellsSpec)) wholeTellsCard

/-- THE SECOND FORM's CARD OF 'compasslaw7.GapHolds'. -/
def gapHoldsUptoCard : Claim7 := { stood := { row := gapHoldsUptoRow, standIns := [], harness := (true, "a8a07f2edd374595c4d1c99cbfcbb050327074fd297ed6900a6c7818f70d4496"), looks := false }, kinds := [], alts := [], laidByText := true, laidKinds := [.data], laidTests := true, laidLooks := .later }
def GapHoldsUptoCardSaid : Prop := Claim7.holds Tryd.pinned (.plain (OpenSpec.upto gapHoldsSpec)) gapHoldsUptoCard

/-- THE SECOND FORM's CARD OF 'compasslaw2.WholeTells'. -/
def wholeTellsUptoCard : Claim7 := { stood := { row := wholeTellsUptoRow, standIns := [], harness := (true, "a8a07f2edd374595c4d1c99cbfcbb050327074fd297ed6900a6c7818f70d4496"), looks := false }, kinds := [], alts := [], laidByText := true, laidKinds := [.data, .data, .data], laidTests := true, laidLooks := .later }
def WholeTellsUptoCardSaid : Prop := Claim7.holds Tryd.pinned (.plain (OpenSpec.upto wholeTellsSpec)) wholeTellsUptoCard
end Rows
end Go.Proofs.YtkibkmdgibemkaaDoor
