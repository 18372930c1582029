/-
  compasslaw4.alive: a first call whose answer is known.
-/
import Derived.Test.YtigpnopeacicpaaDoorTaFlB
namespace Go.Proofs.YtigpnopeacicpaaDoor
set_option linter.unusedSimpArgs false
open Go.RowKit

namespace Fl

theorem fl_dyadV (v : Nat) (s : Bool) {r : Nat} (x : Dy) (h : r < INF) (hv : wordB s r = v) (hx : fD s r = x) (w : World) (hT : Hid (Tab6 w)) : Calls Tryd.prog 128 #[.float .f64 v] w (QDPost x true w) := by
  subst hv hx
  exact fl_dyad s h w hT

end Fl

end Go.Proofs.YtigpnopeacicpaaDoor
