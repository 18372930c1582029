/-
  Dyads: roots, rounding, whatever comes in.
-/
import Derived.Test.YtgiejjpemhceiaaDoorTeDyN
import Derived.Test.YtgiejjpemhceiaaDoorTeLawDyA
namespace Go.Proofs.YtgiejjpemhceiaaDoor
set_option linter.unusedSimpArgs false
open Go.RowKit

theorem roundV_d {w : World} {a : Value} {x : Dy} {N : Nat} (p dir : Int) (r : Dy) (hr : rndD (widthP p) (decide (0 ≤ dir)) x = r) (ha : Hid (DV w a x)) (hx : Hid (Bnd N x)) (hN : N ≤ 1000000) (hT : Hid (Tab6 w)) : Calls Tryd.prog 108 #[a, .int .i64 p, .int .i64 dir] w (DPost r w) := hr ▸ round_d p dir ha hx hN hT
theorem bnd_zero (N : Nat) : Bnd N ⟨0, 0⟩ := ⟨Nat.pow_pos (by decide), by show -(N : Int) ≤ 0; omega, by show (0 : Int) ≤ N; omega⟩
end Go.Proofs.YtgiejjpemhceiaaDoor
