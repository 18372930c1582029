/-
  An argument that is a slice of limbs, opened: it reads as L.
-/
import Derived.Test.YtigpnopeacicpaaDoorTaGNV
import Derived.ProofKit
import Derived.OpenShut
import Derived.ShutString
import Derived.ChangeOld
import Derived.Below
import Derived.Deep.Slices
import Derived.Deep.Fields
import Derived.ChangeSame
namespace Go.Proofs.YtigpnopeacicpaaDoor
open Go.ChangeShapes Go.WideShapes Go.ChangeAt Go.RowKit Go.Deep

/-- A slice of limbs, opened. -/
def LimbsIn (w : World) (A : Option Addr) (L : List Nat) : Prop := LRead w A L ∧ Limb L
theorem LimbsIn.only {w w' : World} {A : Option Addr} {L : List Nat} (h : LimbsIn w A L) (ho : Only [] w w') : LimbsIn w' A L := ⟨h.1.only ho, h.2⟩

end Go.Proofs.YtigpnopeacicpaaDoor
