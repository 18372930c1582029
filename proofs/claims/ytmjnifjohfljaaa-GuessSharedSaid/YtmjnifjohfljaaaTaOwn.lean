/-
  The program's own facts that every lifting names.
-/
import Derived.Test.YtmjnifjohfljaaaProg
import Derived.Test.YtmjnifjohfljaaaTaMem
import Derived.ProofKit
import Derived.OpenShut
import Derived.ShutString
import Derived.ChangeOld
import Derived.Below
import Derived.Deep.Slices
import Derived.Deep.Fields
import Derived.ChangeSame
namespace Go.Proofs.Ytmjnifjohfljaaa
open Go.ChangeShapes Go.WideShapes Go.ChangeAt Go.RowKit Go.Deep

theorem own : ownKnob Try.prog.godebug = none := by kernel_rfl
end Go.Proofs.Ytmjnifjohfljaaa
