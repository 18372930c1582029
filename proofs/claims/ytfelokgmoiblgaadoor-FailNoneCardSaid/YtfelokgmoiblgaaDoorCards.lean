/-
  DERIVED. GIVEN WITH THE SEED: THE CARDS: each row of YtfelokgmoiblgaaDoorRows.lean that lists a variable, with what it lists TIED to the program's text (the seventh form; the later family's looks); each row that meets fmt, with fmt's text TOLD by the authors' own Lean function (tested against real Go, not proved from fmt's source: count such statements apart). THE CARD IS WHAT COUNTS. Prove the row's statement (the work); the ties are given (YtfelokgmoiblgaaDoorTie.lean); close each card by the builder's one call (the guide's Derived/Test/ToyasCard.lean, 'card_holds'). Laid BY PROGRAM, IN A SANDBOX (cutbox-door.mjs). By AI agents, Wed Nov 11 2026. No macro, syntax, notation, axiom, sorry.
-/
import Derived.Test.YtfelokgmoiblgaaDoorRows
import GoSem.ClaimSeven
namespace Go.Proofs.YtfelokgmoiblgaaDoor
namespace Rows

/-- THE TIED CARD OF 'compasslaw6.FailNone'. -/
def failNoneCard : Claim7 := { stood := { row := failNoneRow, standIns := [], harness := (true, "d7ba84f9b68c6e5518a79cdd9b89d0e47506cee27729ee41719057b6e93f7139"), looks := true }, kinds := [], alts := [], laidByText := true, laidKinds := [.data, .data, .data, .handle], laidTests := true, laidLooks := .later }
def FailNoneCardSaid : Prop := Claim7.holds Tryd.pinned (.plain (OpenSpec.ofChange failNoneSpec)) failNoneCard

/-- THE TIED CARD OF 'compasslaw6.FailWraps'. -/
def failWrapsCard : Claim7 := { stood := { row := failWrapsRow, standIns := [], harness := (true, "d7ba84f9b68c6e5518a79cdd9b89d0e47506cee27729ee41719057b6e93f7139"), looks := true }, kinds := [], alts := [], laidByText := true, laidKinds := [.handle], laidTests := true, laidLooks := .later }
def FailWrapsCardSaid : Prop := Claim7.holds Tryd.pinned (.plain (OpenSpec.ofChange failWrapsSpec)) failWrapsCard

/-- THE TIED CARD OF 'compasslaw6.FailKinds'. -/
def failKindsCard : Claim7 := { stood := { row := failKindsRow, standIns := [], harness := (true, "d7ba84f9b68c6e5518a79cdd9b89d0e47506cee27729ee41719057b6e93f7139"), looks := true }, kinds := [], alts := [], laidByText := true, laidKinds := [.handle], laidTests := true, laidLooks := .later }
def FailKindsCardSaid : Prop := Claim7.holds Tryd.pinned (.plain (OpenSpec.ofChange failKindsSpec)) failKindsCard

/-- THE SECOND FORM's CARD OF 'compasslaw6.FailNone'. -/
def failNoneUptoCard : Claim7 := { stood := { row := failNoneUptoRow, standIns := [], harness := (true, "d7ba84f9b68c6e5518a79cdd9b89d0e47506cee27729ee41719057b6e93f7139"), looks := true }, kinds := [], alts := [], laidByText := true, laidKinds := [.data, .data, .data, .handle], laidTests := true, laidLooks := .later }
def FailNoneUptoCardSaid : Prop := Claim7.holds Tryd.pinned (.plain (OpenSpec.upto failNoneSpec)) failNoneUptoCard

/-- THE SECOND FORM's CARD OF 'compasslaw6.FailWraps'. -/
def failWrapsUptoCard : Claim7 := { stood := { row := failWrapsUptoRow, standIns := [], harness := (true, "d7ba84f9b68c6e5518a79cdd9b89d0e47506cee27729ee41719057b6e93f7139"), looks := true }, kinds := [], alts := [], laidByText := true, laidKinds := [.handle], laidTests := true, laidLooks := .later }
def FailWrapsUptoCardSaid : Prop := Claim7.holds Tryd.pinned (.plain (OpenSpec.upto failWrapsSpec)) failWrapsUptoCard

/-- THE SECOND FORM's CARD OF 'compasslaw6.FailKinds'. -/
def failKindsUptoCard : Claim7 := { stood := { row := failKindsUptoRow, standIns := [], harness := (true, "d7ba84f9b68c6e5518a79cdd9b89d0e47506cee27729ee41719057b6e93f7139"), looks := true }, kinds := [], alts := [], laidByText := true, laidKinds := [.handle], laidTests := true, laidLooks := .later }
def FailKindsUptoCardSaid : Prop := Claim7.holds Tryd.pinned (.plain (OpenSpec.upto failKindsSpec)) failKindsUptoCard
end Rows
end Go.Proofs.YtfelokgmoiblgaaDoor
