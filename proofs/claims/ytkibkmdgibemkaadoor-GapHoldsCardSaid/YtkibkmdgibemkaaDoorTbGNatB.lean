/-
  nat: math/bits' Mul64, Len64, LeadingZeros64; products limb by limb.
-/
import Derived.Test.YtkibkmdgibemkaaDoorTbGNatA
import Derived.Test.YtkibkmdgibemkaaDoorTbShelf
import Derived.IntWalk
import Derived.Test.YtkibkmdgibemkaaDoorTbGVal
import Derived.StillTailTactics
namespace Go.Proofs.YtkibkmdgibemkaaDoor
open Go.RowKit

def mHi (x y : Nat) : Nat := x * y / BB
def mLo (x y : Nat) : Nat := x * y % BB
theorem u64_wrap {a : Nat} (h : a < BB) : IntKind.u64.wrap (a : Int) = (a : Int) := by
  rw [BB_val] at h
  rw [IntKind.wrap_u64]
  omega
theorem u64_add {a b c : Nat} (h : a + b = c) (hc : c < BB) : IntKind.u64.wrap ((a : Int) + (b : Int)) = (c : Int) := by
  rw [← Int.natCast_add, h]
  exact u64_wrap hc

/-- One step of a row of products. -/
structure MStep (v y z cy lo1 c1 hi1 lo2 c2 hi2 : Nat) : Prop where
  a1 : lo1 = aLo (mLo v y) z 0
  a2 : c1 = aHi (mLo v y) z 0
  a3 : hi1 = mHi v y + c1
  a4 : lo2 = aLo lo1 cy 0
  a5 : c2 = aHi lo1 cy 0
  a6 : hi2 = hi1 + c2
  law : lo2 + BB * hi2 = z + v * y + cy
  lt : hi2 < BB
  lt1 : hi1 < BB
  lo : lo2 < BB
theorem val_nil : val [] = 0 := rfl

/-- Where a row of a product stands. -/
structure MCar (w wr : World) (g : Nat) (L : Nat) (zs : List Nat) (i cy T m : Nat) : Prop where
  blk : Blk wr g 70 (limbV zs)
  limb : Limb zs
  len : zs.length = L
  cylt : cy < BB
  val_ : val zs + BB ^ i * cy = T
  high : ∀ k, m ≤ k → zs[k]?.getD 0 = 0
  only : Only [g] w wr
theorem MCar.step {w wr : World} {g L : Nat} {zs : List Nat} {i cy T m v y : Nat} (h : MCar w wr g L zs i cy T m) (hi : i < L) (him : i < m) {lo1 c1 hi1 lo2 c2 hi2 : Nat} (hs : MStep v y (zs[i]?.getD 0) cy lo1 c1 hi1 lo2 c2 hi2) {T' : Nat} (hT : T' = T + BB ^ i * (v * y)) :
    MCar w (wr.setCell ⟨g, i, none⟩ (.int .u64 (lo2 : Int))) g L (zs.set i lo2) (i + 1) hi2 T' m := by
  refine ⟨?_, h.limb.set _ _ hs.lo, by rw [List.length_set, h.len], hs.lt, ?_, fun k hk => ?_, h.only.trans ((Only.refl [g] wr).setCell (.inl (by simp)) _) (by simp)⟩
  · rw [← limbV_set]
    exact h.blk.set_ i _
  · rw [add_step (by rw [h.len]; exact hi) hs.law, hT, ← h.val_]
    omega
  · rw [set_get_ne (by omega)]
    exact h.high k hk
end Go.Proofs.YtkibkmdgibemkaaDoor
/-
  nat: products by parts: mul, Mul.
-/
namespace Go.Proofs.YtkibkmdgibemkaaDoor
open Go.RowKit

theorem LRead.drop {w : World} {b o : Nat} {xs : List Nat} (h : LRead w (some ⟨b, o, none⟩) xs) (m : Nat) : LRead w (some ⟨b, o + m, none⟩) (xs.drop m) := fun k hk => by
  rw [List.length_drop] at hk
  obtain ⟨b', o', e, hc⟩ := h (m + k) (by omega)
  injection e with e
  injection e with e1 e2 _
  subst e1 e2
  exact ⟨b, o + m, rfl, by rw [List.getElem?_drop, Nat.add_assoc]; exact hc⟩
theorem Arg.drop {w : World} {b o : Nat} {xs : List Nat} (h : Arg w (some ⟨b, o, none⟩) xs) (m : Nat) : Arg w (some ⟨b, o + m, none⟩) (xs.drop m) :=
  ⟨h.read.drop m, h.limb.drop m, by have := h.len; simp; omega⟩
theorem Arg.take {w : World} {A : Option Addr} {xs : List Nat} (h : Arg w A xs) (m : Nat) : Arg w A (xs.take m) :=
  ⟨h.read.take m, h.limb.take m, by have := h.len; simp; omega⟩
end Go.Proofs.YtkibkmdgibemkaaDoor
