/-
  Dyads: the order.
-/
import Derived.Test.YtgiejjpemhceiaaDoorTeGDyA
namespace Go.Proofs.YtgiejjpemhceiaaDoor
set_option linter.unusedSimpArgs false
open Go.RowKit

theorem signV_d {w : World} {a : Value} {x : Dy} (c : Int) (ha : Hid (DV w a x)) (hc : x.z.sign = c) : Calls Tryd.prog 60 #[a] w fun e w' => e = .returned (.int .i64 c) ∧ Only [] w w' := hc ▸ sign_d ha
theorem topV_d {w : World} {a : Value} {x : Dy} {N : Nat} (c : Int) (ha : Hid (DV w a x)) (hx : Hid (Bnd N x)) (hN : N ≤ 8000000) (hc : topD x = c) : Calls Tryd.prog 83 #[a] w fun e w' => e = .returned (.int .i64 c) ∧ Only [] w w' := hc ▸ top_d ha hx hN
theorem top_range {x : Dy} {N : Nat} (hx : Bnd N x) (hN : N ≤ 8000000) : -8000000 ≤ topD x ∧ topD x ≤ 16000000 := by
  have := hx.lo; have := hx.hi; have := bitsN_le hx.z
  unfold topD
  split <;> omega
end Go.Proofs.YtgiejjpemhceiaaDoor
