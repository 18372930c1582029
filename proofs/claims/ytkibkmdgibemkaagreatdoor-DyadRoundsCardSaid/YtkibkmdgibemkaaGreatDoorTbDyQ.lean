/-
  Dyads: roots, rounding, whatever comes in.
-/
import Derived.Test.YtkibkmdgibemkaaGreatDoorTbDyP
import Derived.Test.YtkibkmdgibemkaaGreatDoorTbLawDyA
namespace Go.Proofs.YtkibkmdgibemkaaGreatDoor
set_option linter.unusedSimpArgs false
open Go.RowKit

theorem sqrtA_d {w : World} {a : Value} {x : Dy} {N : Nat} (p dir : Int) (ha : Hid (DV w a x)) (hx : Hid (Bnd N x)) (hN : N ≤ 100000) (hT : Hid (Tab6 w)) : Calls Tryz.prog 49 #[a, .int .i64 p, .int .i64 dir] w (QDPost (sqrtQ (widthP p) (decide (0 ≤ dir)) x) (decide (0 ≤ x.z)) w) := by
  unfold sqrtQ
  by_cases h1 : x.z < 0
  · rw [if_pos (show x.z ≤ 0 by omega), decide_eq_false (show ¬ 0 ≤ x.z by omega)]
    exact sqrtn_d p dir ha h1
  · rw [decide_eq_true (show 0 ≤ x.z by omega)]
    by_cases h2 : x.z = 0
    · rw [if_pos (by omega)]
      exact sqrtz_d p dir ha h2
    · rw [if_neg (by omega)]
      exact sqrt_d p dir ha hx hN (by omega) hT
theorem sqrtV_d {w : World} {a : Value} {x : Dy} {N : Nat} (p dir : Int) (r : Dy) (ok : Bool) (hr : sqrtQ (widthP p) (decide (0 ≤ dir)) x = r) (hok : decide (0 ≤ x.z) = ok) (ha : Hid (DV w a x)) (hx : Hid (Bnd N x)) (hN : N ≤ 100000) (hT : Hid (Tab6 w)) : Calls Tryz.prog 49 #[a, .int .i64 p, .int .i64 dir] w (QDPost r ok w) := hr ▸ hok ▸ sqrtA_d p dir ha hx hN hT
theorem roundV_d {w : World} {a : Value} {x : Dy} {N : Nat} (p dir : Int) (r : Dy) (hr : rndD (widthP p) (decide (0 ≤ dir)) x = r) (ha : Hid (DV w a x)) (hx : Hid (Bnd N x)) (hN : N ≤ 1000000) (hT : Hid (Tab6 w)) : Calls Tryz.prog 52 #[a, .int .i64 p, .int .i64 dir] w (DPost r w) := hr ▸ round_d p dir ha hx hN hT
theorem bnd_zero (N : Nat) : Bnd N ⟨0, 0⟩ := ⟨Nat.pow_pos (by decide), by show -(N : Int) ≤ 0; omega, by show (0 : Int) ≤ N; omega⟩
theorem quoQ_bnd {P N M : Nat} {up : Bool} {x y : Dy} (hx : Bnd N x) (hy : Bnd N y) (hM : 15 * N + 7 * P + 19 ≤ M) : Bnd M (quoQ P up x y) := by
  unfold quoQ
  split
  · exact bnd_zero _
  · split
    · exact bnd_zero _
    · exact quo_bnd hx hy hM
theorem sqrtQ_bnd {P N M : Nat} {up : Bool} {x : Dy} (hx : Bnd N x) (hM : 9 * N + 16 * P + 60 ≤ M) : Bnd M (sqrtQ P up x) := by
  unfold sqrtQ
  split
  · exact bnd_zero _
  · exact sqrt_bnd hx hM

end Go.Proofs.YtkibkmdgibemkaaGreatDoor
