/-
  nat: math/bits' Mul64, Len64, LeadingZeros64; products limb by limb.
-/
import Derived.Test.YtfelokgmoiblgaaDoorGNatA
import Derived.Test.YtfelokgmoiblgaaDoorShelf
import Derived.IntWalk
import Derived.Test.YtfelokgmoiblgaaDoorGVal
import Derived.StillTailTactics
namespace Go.Proofs.YtfelokgmoiblgaaDoor
open Go.RowKit

def mHi (x y : Nat) : Nat := x * y / BB

def mLo (x y : Nat) : Nat := x * y % BB

theorem mul64_law (x y : Nat) : mLo x y + BB * mHi x y = x * y := Nat.mod_add_div _ _

theorem mLo_lt (x y : Nat) : mLo x y < BB := Nat.mod_lt _ BB_pos

theorem mHi_le {x y : Nat} (hx : x < BB) (hy : y < BB) : mHi x y + 2 ≤ BB := by
  have hp := BB_pos
  have h1 : x * y ≤ (BB - 1) * (BB - 1) := Nat.mul_le_mul (by omega) (by omega)
  have h2 := mul64_law x y
  obtain ⟨k, hk⟩ : ∃ k, BB = k + 1 := ⟨BB - 1, by omega⟩
  rw [hk, Nat.add_sub_cancel] at h1
  have h3 : mHi x y < k := by
    apply Nat.lt_of_not_le
    intro h
    have h4 : BB * k ≤ BB * mHi x y := Nat.mul_le_mul_left _ h
    have h5 : BB * k = k * k + k := by rw [hk, Nat.add_mul, Nat.one_mul]
    have hk1 := BB_two
    omega
  omega

theorem u64_wrap {a : Nat} (h : a < BB) : IntKind.u64.wrap (a : Int) = (a : Int) := by
  rw [BB_val] at h
  rw [IntKind.wrap_u64]
  omega

theorem u64_add {a b c : Nat} (h : a + b = c) (hc : c < BB) : IntKind.u64.wrap ((a : Int) + (b : Int)) = (c : Int) := by
  rw [← Int.natCast_add, h]
  exact u64_wrap hc

/-- One step of a row of products. -/
structure MStep (v y z cy lo1 c1 hi1 lo2 c2 hi2 : Nat) : Prop where
  a1 : lo1 = aLo (mLo v y) z 0
  a2 : c1 = aHi (mLo v y) z 0
  a3 : hi1 = mHi v y + c1
  a4 : lo2 = aLo lo1 cy 0
  a5 : c2 = aHi lo1 cy 0
  a6 : hi2 = hi1 + c2
  law : lo2 + BB * hi2 = z + v * y + cy
  lt : hi2 < BB
  lt1 : hi1 < BB
  lo : lo2 < BB

theorem mstep {v y z cy : Nat} (hv : v < BB) (hy : y < BB) (hz : z < BB) (hc : cy < BB) : ∃ lo1 c1 hi1 lo2 c2 hi2, MStep v y z cy lo1 c1 hi1 lo2 c2 hi2 := by
  have h1 := mul64_law v y
  have h2 := add64_law (mLo v y) z 0
  have h3 := add64_law (aLo (mLo v y) z 0) cy 0
  have h4 := aHi_le (mLo_lt v y) hz (Nat.zero_le 1)
  have h5 := aHi_le (aLo_lt (mLo v y) z 0) hc (Nat.zero_le 1)
  have h6 := mHi_le hv hy
  have hlaw : aLo (aLo (mLo v y) z 0) cy 0 + BB * (mHi v y + aHi (mLo v y) z 0 + aHi (aLo (mLo v y) z 0) cy 0) = z + v * y + cy := by
    rw [Nat.mul_add, Nat.mul_add]
    omega
  have hlt : mHi v y + aHi (mLo v y) z 0 + aHi (aLo (mLo v y) z 0) cy 0 < BB := by
    apply Nat.lt_of_not_le
    intro h
    have h7 := Nat.mul_le_mul_left BB h
    have h8 : v * y ≤ (BB - 1) * (BB - 1) := Nat.mul_le_mul (by omega) (by omega)
    obtain ⟨k, hk⟩ : ∃ k, BB = k + 1 := ⟨BB - 1, by have := BB_pos; omega⟩
    have h9 : BB * BB = k * k + 2 * k + 1 := by rw [hk, Nat.add_mul, Nat.mul_add]; omega
    rw [hk, Nat.add_sub_cancel] at h8
    omega
  exact ⟨_, _, _, _, _, _, rfl, rfl, rfl, rfl, rfl, rfl, hlaw, hlt, by omega, aLo_lt _ _ _⟩

theorem val_nil : val [] = 0 := rfl

/-- Where a row of a product stands. -/
structure MCar (w wr : World) (g : Nat) (L : Nat) (zs : List Nat) (i cy T m : Nat) : Prop where
  blk : Blk wr g 54 (limbV zs)
  limb : Limb zs
  len : zs.length = L
  cylt : cy < BB
  val_ : val zs + BB ^ i * cy = T
  high : ∀ k, m ≤ k → zs[k]?.getD 0 = 0
  only : Only [g] w wr

theorem MCar.step {w wr : World} {g L : Nat} {zs : List Nat} {i cy T m v y : Nat} (h : MCar w wr g L zs i cy T m) (hi : i < L) (him : i < m) {lo1 c1 hi1 lo2 c2 hi2 : Nat} (hs : MStep v y (zs[i]?.getD 0) cy lo1 c1 hi1 lo2 c2 hi2) {T' : Nat} (hT : T' = T + BB ^ i * (v * y)) :
    MCar w (wr.setCell ⟨g, i, none⟩ (.int .u64 (lo2 : Int))) g L (zs.set i lo2) (i + 1) hi2 T' m := by
  refine ⟨?_, h.limb.set _ _ hs.lo, by rw [List.length_set, h.len], hs.lt, ?_, fun k hk => ?_, h.only.trans ((Only.refl [g] wr).setCell (.inl (by simp)) _) (by simp)⟩
  · rw [← limbV_set]
    exact h.blk.set_ i _
  · rw [add_step (by rw [h.len]; exact hi) hs.law, hT, ← h.val_]
    omega
  · rw [set_get_ne (by omega)]
    exact h.high k hk

/-- The carry goes into the limb behind the row. -/
theorem MCar.close {w wr : World} {g L : Nat} {zs : List Nat} {i cy T : Nat} (h : MCar w wr g L zs i cy T i) (hi : i < L) :
    MCar w (wr.setCell ⟨g, i, none⟩ (.int .u64 (cy : Int))) g L (zs.set i cy) 0 0 T (i + 1) := by
  refine ⟨?_, h.limb.set _ _ h.cylt, by rw [List.length_set, h.len], BB_pos, ?_, fun k hk => ?_, h.only.trans ((Only.refl [g] wr).setCell (.inl (by simp)) _) (by simp)⟩
  · rw [← limbV_set]
    exact h.blk.set_ i _
  · have h1 := val_set zs i cy (by rw [h.len]; exact hi)
    rw [h.high i (Nat.le_refl _)] at h1
    have := h.val_
    omega
  · rw [set_get_ne (by omega)]
    exact h.high k (by omega)

end Go.Proofs.YtfelokgmoiblgaaDoor
/-
  nat: products by parts: mul, Mul.
-/
namespace Go.Proofs.YtfelokgmoiblgaaDoor
open Go.RowKit

theorem LRead.drop {w : World} {b o : Nat} {xs : List Nat} (h : LRead w (some ⟨b, o, none⟩) xs) (m : Nat) : LRead w (some ⟨b, o + m, none⟩) (xs.drop m) := fun k hk => by
  rw [List.length_drop] at hk
  obtain ⟨b', o', e, hc⟩ := h (m + k) (by omega)
  injection e with e
  injection e with e1 e2 _
  subst e1 e2
  exact ⟨b, o + m, rfl, by rw [List.getElem?_drop, Nat.add_assoc]; exact hc⟩

theorem Arg.drop {w : World} {b o : Nat} {xs : List Nat} (h : Arg w (some ⟨b, o, none⟩) xs) (m : Nat) : Arg w (some ⟨b, o + m, none⟩) (xs.drop m) :=
  ⟨h.read.drop m, h.limb.drop m, by have := h.len; simp; omega⟩

theorem Arg.take {w : World} {A : Option Addr} {xs : List Nat} (h : Arg w A xs) (m : Nat) : Arg w A (xs.take m) :=
  ⟨h.read.take m, h.limb.take m, by have := h.len; simp; omega⟩

end Go.Proofs.YtfelokgmoiblgaaDoor
