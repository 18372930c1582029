/-
  The reference's numbers: SameLimbs, Limbs, Is, From.
-/
import Derived.Test.YtphjcphcgnjogaaDoorRefA
namespace Go.Proofs.YtphjcphcgnjogaaDoor
open Go.RowKit

end Go.Proofs.YtphjcphcgnjogaaDoor
