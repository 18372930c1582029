/-
  The program's own facts that every lifting names.
-/
import Derived.Test.YtmjnifjohfljaaaGreatDoorProg
import Derived.Test.YtmjnifjohfljaaaGreatDoorTaMem
import Derived.ProofKit
import Derived.OpenShut
import Derived.ShutString
import Derived.ChangeOld
import Derived.Below
import Derived.Deep.Slices
import Derived.Deep.Fields
import Derived.ChangeSame
namespace Go.Proofs.YtmjnifjohfljaaaGreatDoor
open Go.ChangeShapes Go.WideShapes Go.ChangeAt Go.RowKit Go.Deep

theorem own : ownKnob Tryz.prog.godebug = none := by kernel_rfl
theorem laidOut : laidOutB Tryz.prog = true := by kernel_rfl
end Go.Proofs.YtmjnifjohfljaaaGreatDoor
