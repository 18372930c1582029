/-
  Dyads: the order.
-/
import Derived.Test.YtkibkmdgibemkaaGreatDoorTbGDyA
namespace Go.Proofs.YtkibkmdgibemkaaGreatDoor
set_option linter.unusedSimpArgs false
open Go.RowKit

theorem signV_d {w : World} {a : Value} {x : Dy} (c : Int) (ha : Hid (DV w a x)) (hc : x.z.sign = c) : Calls Tryz.prog 30 #[a] w fun e w' => e = .returned (.int .i64 c) ∧ Only [] w w' := hc ▸ sign_d ha
theorem topV_d {w : World} {a : Value} {x : Dy} {N : Nat} (c : Int) (ha : Hid (DV w a x)) (hx : Hid (Bnd N x)) (hN : N ≤ 8000000) (hc : topD x = c) : Calls Tryz.prog 43 #[a] w fun e w' => e = .returned (.int .i64 c) ∧ Only [] w w' := hc ▸ top_d ha hx hN
end Go.Proofs.YtkibkmdgibemkaaGreatDoor
