/-
  Floats, plain: a sum of two lies between the words beside the exact sum.
-/
import Derived.Test.YtmjnifjohfljaaaTaFlY
import Derived.WalkLawsBesides
namespace Go.Proofs.Ytmjnifjohfljaaa
set_option linter.unusedSimpArgs false

namespace Fl
theorem write_num (neg : Bool) (m : Nat) (p : Int) : Ieee.double.write (.number neg m p) = Ieee.double.nearest neg m p := rfl
end Fl
end Go.Proofs.Ytmjnifjohfljaaa
