/-
  The reference's numbers: Add, Small, Cmp, Sub.
-/
import Derived.Test.YtphjcphcgnjogaaDoorRefB
namespace Go.Proofs.YtphjcphcgnjogaaDoor
open Go.RowKit

end Go.Proofs.YtphjcphcgnjogaaDoor
