/-
  Floats, plain: a step; the two words beside a number; powers of two; sums.
-/
import Derived.Test.YtgiejjpemhceiaaDoorTaFlX
namespace Go.Proofs.YtgiejjpemhceiaaDoor
set_option linter.unusedSimpArgs false

namespace Fl
theorem inf_val : INF = 9218868437227405312 := rfl
end Fl
end Go.Proofs.YtgiejjpemhceiaaDoor
