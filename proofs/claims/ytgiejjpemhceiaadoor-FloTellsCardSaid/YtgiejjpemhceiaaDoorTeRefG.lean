/-
  The reference's numbers: DivMod, below and by one digit.
-/
import Derived.Test.YtgiejjpemhceiaaDoorTeRDiv
namespace Go.Proofs.YtgiejjpemhceiaaDoor
open Go.RowKit

structure ZCar (wm wr : World) (g y : Nat) (xs zs : List Nat) (k rest : Nat) : Prop where
  blk : Blk wr g 105 (limbV zs)
  limb : R.Limb zs
  len : zs.length = xs.length
  val_ : R.val (xs.drop k) = y * R.val (zs.drop k) + rest
  lt : rest < y
  only : Only [g] wm wr
theorem ZCar.step {wm wr wd : World} {g y : Nat} {xs zs : List Nat} {j rest : Nat} (h : ZCar wm wr g y xs zs (j + 1) rest) (hj : j < xs.length) (hx : R.Limb xs) (q r : Nat) (hq : (rest * R.BB + xs[j]?.getD 0) / y = q) (hr : (rest * R.BB + xs[j]?.getD 0) % y = r)
    (hb : Blk wd g 105 ((limbV zs).set j (.int .u64 (q : Int)))) (ho : Only [g] wr wd) : ZCar wm wd g y xs (zs.set j q) j r := by
  subst hq hr
  have hy : 0 < y := by have := h.lt; omega
  have hq : (rest * R.BB + xs[j]?.getD 0) / y < R.BB := by
    rw [Nat.div_lt_iff_lt_mul hy]
    have h1 := Nat.mul_le_mul_right R.BB (show rest + 1 ≤ y from h.lt)
    rw [Nat.succ_mul, Nat.mul_comm y] at h1
    have := hx.get j
    omega
  have hlen := h.len
  refine ⟨?_, h.limb.set _ _ hq, by rw [List.length_set, hlen], ?_, Nat.mod_lt _ hy, h.only.trans ho (by simp)⟩
  · rw [← limbV_set]
    exact hb
  · have h1 := Nat.div_add_mod (rest * R.BB + xs[j]?.getD 0) y
    rw [R.val_drop_cons xs j hj, R.val_drop_cons _ j (by rw [List.length_set]; omega), set_get_eq (by omega), List.drop_set_of_lt (by omega), h.val_]
    rw [Nat.mul_add, Nat.mul_add, Nat.mul_left_comm R.BB y, Nat.mul_comm R.BB rest]
    omega
end Go.Proofs.YtgiejjpemhceiaaDoor
