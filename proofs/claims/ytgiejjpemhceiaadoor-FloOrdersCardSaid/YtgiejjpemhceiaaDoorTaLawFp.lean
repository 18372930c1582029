/-
  FloPowers: the walk.
-/
import Derived.Test.YtgiejjpemhceiaaDoorTaFlD
import Derived.Test.YtgiejjpemhceiaaDoorTaFlS
import Derived.Test.YtgiejjpemhceiaaDoorTaDyQ
import Derived.Test.YtgiejjpemhceiaaDoorTaLawDyA
namespace Go.Proofs.YtgiejjpemhceiaaDoor
set_option linter.unusedSimpArgs false
open Go.RowKit
namespace Fl
theorem bnd_word (s : Bool) (r : Nat) {N : Nat} (hN : 4000 ≤ N) (h : r ≤ INF) : Bnd N (fD s r) := by
  have h2 := inf_val
  unfold fD
  exact bnd_nrm (K := 53) (M := 2000) (by rw [sg_abs]; have := mant_lt r; omega) (by unfold expoW; omega) (by unfold expoW; omega) (by omega)
theorem ord_is (a b : Bool) (r s : Nat) (hr : r ≤ INF) (hs : s ≤ INF) (o : Ordering) (h : compare (sg a r) (sg b s) = o) : FloatKind.f64.format.order (wordB a r) (wordB b s) = some o := by
  show Ieee.double.order _ _ = _
  rw [ord_rung a b hr hs, h]
end Fl
end Go.Proofs.YtgiejjpemhceiaaDoor
