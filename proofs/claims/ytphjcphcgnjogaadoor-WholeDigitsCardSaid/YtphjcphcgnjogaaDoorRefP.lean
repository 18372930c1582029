/-
  The reference's Parse.
-/
import Derived.Test.YtphjcphcgnjogaaDoorRefD
import Derived.Test.YtphjcphcgnjogaaDoorPars
namespace Go.Proofs.YtphjcphcgnjogaaDoor
open Go.RowKit

end Go.Proofs.YtphjcphcgnjogaaDoor
