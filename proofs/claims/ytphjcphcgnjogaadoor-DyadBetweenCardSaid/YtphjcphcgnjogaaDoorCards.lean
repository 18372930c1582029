/-
  DERIVED. GIVEN WITH THE SEED: THE CARDS: each row of YtphjcphcgnjogaaDoorRows.lean that lists a variable, with what it lists TIED to the program's text (the seventh form; the later family's looks); each row that meets fmt, with fmt's text TOLD by the authors' own Lean function (tested against real Go, not proved from fmt's source: count such statements apart). THE CARD IS WHAT COUNTS. Prove the row's statement (the work); the ties are given (YtphjcphcgnjogaaDoorTie.lean); close each card by the builder's one call (the guide's Derived/Test/ToyasCard.lean, 'card_holds'). Laid BY PROGRAM, IN A SANDBOX (cutbox-door.mjs). By AI agents, Wed Nov 11 2026. No macro, syntax, notation, axiom, sorry.
-/
import Derived.Test.YtphjcphcgnjogaaDoorRows
import GoSem.ClaimSeven
namespace Go.Proofs.YtphjcphcgnjogaaDoor
namespace Rows

/-- THE TIED CARD OF 'compasslaw2.WholeLaws'. -/
def wholeLawsCard : Claim7 := { stood := { row := wholeLawsRow, standIns := [], harness := (true, "7fa81575cb992d3bb3bcc180c1fcc785130395bca395e68a072272a3bef97072"), looks := false }, kinds := [], alts := [], laidByText := true, laidKinds := [.data, .data, .data], laidTests := true, laidLooks := .later }
def WholeLawsCardSaid : Prop := Claim7.holds Tryd.pinned (.plain (OpenSpec.ofChange wholeLawsSpec)) wholeLawsCard

/-- THE TIED CARD OF 'compasslaw2.WholeOrders'. -/
def wholeOrdersCard : Claim7 := { stood := { row := wholeOrdersRow, standIns := [], harness := (true, "7fa81575cb992d3bb3bcc180c1fcc785130395bca395e68a072272a3bef97072"), looks := false }, kinds := [], alts := [], laidByText := true, laidKinds := [.data, .data, .data], laidTests := true, laidLooks := .later }
def WholeOrdersCardSaid : Prop := Claim7.holds Tryd.pinned (.plain (OpenSpec.ofChange wholeOrdersSpec)) wholeOrdersCard

/-- THE TIED CARD OF 'compasslaw2.WholeDigits'. -/
def wholeDigitsCard : Claim7 := { stood := { row := wholeDigitsRow, standIns := [], harness := (true, "7fa81575cb992d3bb3bcc180c1fcc785130395bca395e68a072272a3bef97072"), looks := false }, kinds := [], alts := [], laidByText := true, laidKinds := [.data, .data, .data], laidTests := true, laidLooks := .later }
def WholeDigitsCardSaid : Prop := Claim7.holds Tryd.pinned (.plain (OpenSpec.ofChange wholeDigitsSpec)) wholeDigitsCard

/-- THE TIED CARD OF 'compasslaw3.DyadLaws'. -/
def dyadLawsCard : Claim7 := { stood := { row := dyadLawsRow, standIns := [], harness := (true, "7fa81575cb992d3bb3bcc180c1fcc785130395bca395e68a072272a3bef97072"), looks := false }, kinds := [], alts := [], laidByText := true, laidKinds := [.data, .data, .data], laidTests := true, laidLooks := .later }
def DyadLawsCardSaid : Prop := Claim7.holds Tryd.pinned (.plain (OpenSpec.ofChange dyadLawsSpec)) dyadLawsCard

/-- THE TIED CARD OF 'compasslaw3.DyadBetween'. -/
def dyadBetweenCard : Claim7 := { stood := { row := dyadBetweenRow, standIns := [], harness := (true, "7fa81575cb992d3bb3bcc180c1fcc785130395bca395e68a072272a3bef97072"), looks := false }, kinds := [], alts := [], laidByText := true, laidKinds := [.data, .data, .data], laidTests := true, laidLooks := .later }
def DyadBetweenCardSaid : Prop := Claim7.holds Tryd.pinned (.plain (OpenSpec.ofChange dyadBetweenSpec)) dyadBetweenCard

/-- THE TIED CARD OF 'compasslaw3.DyadExact'. -/
def dyadExactCard : Claim7 := { stood := { row := dyadExactRow, standIns := [], harness := (true, "7fa81575cb992d3bb3bcc180c1fcc785130395bca395e68a072272a3bef97072"), looks := false }, kinds := [], alts := [], laidByText := true, laidKinds := [.data, .data, .data], laidTests := true, laidLooks := .later }
def DyadExactCardSaid : Prop := Claim7.holds Tryd.pinned (.plain (OpenSpec.ofChange dyadExactSpec)) dyadExactCard

/-- THE SECOND FORM's CARD OF 'compasslaw2.WholeLaws'. -/
def wholeLawsUptoCard : Claim7 := { stood := { row := wholeLawsUptoRow, standIns := [], harness := (true, "7fa81575cb992d3bb3bcc180c1fcc785130395bca395e68a072272a3bef97072"), looks := false }, kinds := [], alts := [], laidByText := true, laidKinds := [.data, .data, .data], laidTests := true, laidLooks := .later }
def WholeLawsUptoCardSaid : Prop := Claim7.holds Tryd.pinned (.plain (OpenSpec.upto wholeLawsSpec)) wholeLawsUptoCard

/-- THE SECOND FORM's CARD OF 'compasslaw2.WholeOrders'. -/
def wholeOrdersUptoCard : Claim7 := { stood := { row := wholeOrdersUptoRow, standIns := [], harness := (true, "7fa81575cb992d3bb3bcc180c1fcc785130395bca395e68a072272a3bef97072"), looks := false }, kinds := [], alts := [], laidByText := true, laidKinds := [.data, .data, .data], laidTests := true, laidLooks := .later }
def WholeOrdersUptoCardSaid : Prop := Claim7.holds Tryd.pinned (.plain (OpenSpec.upto wholeOrdersSpec)) wholeOrdersUptoCard

/-- THE SECOND FORM's CARD OF 'compasslaw2.WholeDigits'. -/
def wholeDigitsUptoCard : Claim7 := { stood := { row := wholeDigitsUptoRow, standIns := [], harness := (true, "7fa81575cb992d3bb3bcc180c1fcc785130395bca395e68a072272a3bef97072"), looks := false }, kinds := [], alts := [], laidByText := true, laidKinds := [.data, .data, .data], laidTests := true, laidLooks := .later }
def WholeDigitsUptoCardSaid : Prop := Claim7.holds Tryd.pinned (.plain (OpenSpec.upto wholeDigitsSpec)) wholeDigitsUptoCard

/-- THE SECOND FORM's CARD OF 'compasslaw3.DyadLaws'. -/
def dyadLawsUptoCard : Claim7 := { stood := { row := dyadLawsUptoRow, standIns := [], harness := (true, "7fa81575cb992d3bb3bcc180c1fcc785130395bca395e68a072272a3bef97072"), looks := false }, kinds := [], alts := [], laidByText := true, laidKinds := [.data, .data, .data], laidTests := true, laidLooks := .later }
def DyadLawsUptoCardSaid : Prop := Claim7.holds Tryd.pinned (.plain (OpenSpec.upto dyadLawsSpec)) dyadLawsUptoCard

/-- THE SECOND FORM's CARD OF 'compasslaw3.DyadBetween'. -/
def dyadBetweenUptoCard : Claim7 := { stood := { row := dyadBetweenUptoRow, standIns := [], harness := (true, "7fa81575cb992d3bb3bcc180c1fcc785130395bca395e68a072272a3bef97072"), looks := false }, kinds := [], alts := [], laidByText := true, laidKinds := [.data, .data, .data], laidTests := true, laidLooks := .later }
def DyadBetweenUptoCardSaid : Prop := Claim7.holds Tryd.pinned (.plain (OpenSpec.upto dyadBetweenSpec)) dyadBetweenUptoCard

/-- THE SECOND FORM's CARD OF 'compasslaw3.DyadExact'. -/
def dyadExactUptoCard : Claim7 := { stood := { row := dyadExactUptoRow, standIns := [], harness := (true, "7fa81575cb992d3bb3bcc180c1fcc785130395bca395e68a072272a3bef97072"), looks := false }, kinds := [], alts := [], laidByText := true, laidKinds := [.data, .data, .data], laidTests := true, laidLooks := .later }
def DyadExactUptoCardSaid : Prop := Claim7.holds Tryd.pinned (.plain (OpenSpec.upto dyadExactSpec)) dyadExactUptoCard
end Rows
end Go.Proofs.YtphjcphcgnjogaaDoor
