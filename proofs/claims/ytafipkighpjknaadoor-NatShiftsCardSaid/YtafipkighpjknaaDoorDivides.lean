/-
  NatDivides: the law's walk.
-/
import Derived.Test.YtafipkighpjknaaDoorGNV
import Derived.Test.YtafipkighpjknaaDoorLimbsIn
import Derived.Test.YtafipkighpjknaaDoorDoorN
namespace Go.Proofs.YtafipkighpjknaaDoor
open Go.RowKit

theorem root_sq (m : Nat) : rootN (m * m) = m := root_is (Nat.le_refl _) (by rw [Nat.add_mul, Nat.mul_add]; omega)

theorem root_sq2 (m : Nat) : rootN (m * m + (m + m)) = m := root_is (by omega) (by rw [Nat.add_mul, Nat.mul_add]; omega)

end Go.Proofs.YtafipkighpjknaaDoor
