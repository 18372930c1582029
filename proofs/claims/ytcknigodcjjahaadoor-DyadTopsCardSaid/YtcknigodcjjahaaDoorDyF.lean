/-
  Dyads: sums and differences.
-/
import Derived.Test.YtcknigodcjjahaaDoorDyE
namespace Go.Proofs.YtcknigodcjjahaaDoor
set_option linter.unusedSimpArgs false
open Go.RowKit

end Go.Proofs.YtcknigodcjjahaaDoor
