/-
  Dyads: roots, rounding, whatever comes in.
-/
import Derived.Test.YtgiejjpemhceiaaDoorTbDyN
import Derived.Test.YtgiejjpemhceiaaDoorTbLawDyA
namespace Go.Proofs.YtgiejjpemhceiaaDoor
set_option linter.unusedSimpArgs false
open Go.RowKit

theorem bnd_zero (N : Nat) : Bnd N ⟨0, 0⟩ := ⟨Nat.pow_pos (by decide), by show -(N : Int) ≤ 0; omega, by show (0 : Int) ≤ N; omega⟩
theorem quoQ_bnd {P N M : Nat} {up : Bool} {x y : Dy} (hx : Bnd N x) (hy : Bnd N y) (hM : 15 * N + 7 * P + 19 ≤ M) : Bnd M (quoQ P up x y) := by
  unfold quoQ
  split
  · exact bnd_zero _
  · split
    · exact bnd_zero _
    · exact quo_bnd hx hy hM
end Go.Proofs.YtgiejjpemhceiaaDoor
