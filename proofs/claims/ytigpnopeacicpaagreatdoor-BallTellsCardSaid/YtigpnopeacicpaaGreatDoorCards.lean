/-
  DERIVED. GIVEN WITH THE SEED: THE CARDS: each row of YtigpnopeacicpaaGreatDoorRows.lean that lists a variable, with what it lists TIED to the program's text (the seventh form; the later family's looks); each row that meets fmt, with fmt's text TOLD by the authors' own Lean function (tested against real Go, not proved from fmt's source: count such statements apart). THE CARD IS WHAT COUNTS. Prove the row's statement (the work); the ties are given (YtigpnopeacicpaaGreatDoorTie.lean); close each card by the builder's one call (the guide's Derived/Test/ToyasCard.lean, 'card_holds'). Laid BY PROGRAM, IN A SANDBOX (cutbox-door.mjs). By AI agents, Wed Nov 11 2026. No macro, syntax, notation, axiom, sorry.
-/
import Derived.Test.YtigpnopeacicpaaGreatDoorRows
import GoSem.ClaimSeven
namespace Go.Proofs.YtigpnopeacicpaaGreatDoor
namespace Rows

/-- THE TIED CARD OF 'compasslaw5.BallTells'. -/
def ballTellsCard : Claim7 := { stood := { row := ballTellsRow, standIns := [], harness := (true, "6fb53730cda3203483d9ef239aabb7ec68551fd504a684f19aa6e311106f9eec"), looks := false }, kinds := [], alts := [], laidByText := true, laidKinds := [.data], laidTests := true, laidLooks := .later }
def BallTellsCardSaid : Prop := Claim7.holds Tryz.pinned (.plain (OpenSpec.ofChange ballTellsSpec)) ballTellsCard

/-- THE TIED CARD OF 'compasslaw13.NearRoots'. -/
def nearRootsCard : Claim7 := { stood := { row := nearRootsRow, standIns := [], harness := (true, "6fb53730cda3203483d9ef239aabb7ec68551fd504a684f19aa6e311106f9eec"), looks := false }, kinds := [], alts := [], laidByText := true, laidKinds := [.data], laidTests := true, laidLooks := .later }
def NearRootsCardSaid : Prop := Claim7.holds Tryz.pinned (.plain (OpenSpec.ofChange nearRootsSpec)) nearRootsCard

/-- THE TIED CARD OF 'compasslaw13.NearNone'. -/
def nearNoneCard : Claim7 := { stood := { row := nearNoneRow, standIns := [], harness := (true, "6fb53730cda3203483d9ef239aabb7ec68551fd504a684f19aa6e311106f9eec"), looks := false }, kinds := [], alts := [], laidByText := true, laidKinds := [.data], laidTests := true, laidLooks := .later }
def NearNoneCardSaid : Prop := Claim7.holds Tryz.pinned (.plain (OpenSpec.ofChange nearNoneSpec)) nearNoneCard

/-- THE SECOND FORM's CARD OF 'compasslaw5.BallTells'. -/
def ballTellsUptoCard : Claim7 := { stood := { row := ballTellsUptoRow, standIns := [], harness := (true, "6fb53730cda3203483d9ef239aabb7ec68551fd504a684f19aa6e311106f9eec"), looks := false }, kinds := [], alts := [], laidByText := true, laidKinds := [.data], laidTests := true, laidLooks := .later }
def BallTellsUptoCardSaid : Prop := Claim7.holds Tryz.pinned (.plain (OpenSpec.upto ballTellsSpec)) ballTellsUptoCard

/-- THE SECOND FORM's CARD OF 'compasslaw13.NearRoots'. -/
def nearRootsUptoCard : Claim7 := { stood := { row := nearRootsUptoRow, standIns := [], harness := (true, "6fb53730cda3203483d9ef239aabb7ec68551fd504a684f19aa6e311106f9eec"), looks := false }, kinds := [], alts := [], laidByText := true, laidKinds := [.data], laidTests := true, laidLooks := .later }
def NearRootsUptoCardSaid : Prop := Claim7.holds Tryz.pinned (.plain (OpenSpec.upto nearRootsSpec)) nearRootsUptoCard

/-- THE SECOND FORM's CARD OF 'compasslaw13.NearNone'. -/
def nearNoneUptoCard : Claim7 := { stood := { row := nearNoneUptoRow, standIns := [], harness := (true, "6fb53730cda3203483d9ef239aabb7ec68551fd504a684f19aa6e311106f9eec"), looks := false }, kinds := [], alts := [], laidByText := true, laidKinds := [.data], laidTests := true, laidLooks := .later }
def NearNoneUptoCardSaid : Prop := Claim7.holds Tryz.pinned (.plain (OpenSpec.upto nearNoneSpec)) nearNoneUptoCard
end Rows
end Go.Proofs.YtigpnopeacicpaaGreatDoor
