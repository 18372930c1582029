/-
  Dyads, plain: numbers z times 2^e, their values as rational numbers, their sums, products, order.
-/
import Derived.Test.YtmjnifjohfljaaaTaPl
namespace Go.Proofs.Ytmjnifjohfljaaa
set_option linter.unusedSimpArgs false

/-- z times 2^e. -/
structure Dy where
  z : Int
  e : Int
abbrev p2 (e : Int) : Rat := (2 : Rat) ^ e
/-- The value. -/
def Dy.q (x : Dy) : Rat := (x.z : Rat) * p2 x.e
/-- The normal form: an odd amount, or 0. -/
def nrm (z e : Int) : Dy := if z = 0 then ⟨0, 0⟩ else ⟨sg (decide (z < 0)) (z.natAbs / 2 ^ lowN z.natAbs), e + (lowN z.natAbs : Int)⟩
theorem nrm_zero (e : Int) : nrm 0 e = ⟨0, 0⟩ := rfl
theorem nrm_nz {z : Int} (e : Int) (h : z ≠ 0) : nrm z e = ⟨sg (decide (z < 0)) (z.natAbs / 2 ^ lowN z.natAbs), e + (lowN z.natAbs : Int)⟩ := by unfold nrm; rw [if_neg h]
/-- The normal form. -/
def Can (x : Dy) : Prop := (x.z = 0 ∧ x.e = 0) ∨ x.z % 2 = 1
/-! ### Sums, products, order -/
def dAdd (x y : Dy) : Dy := if x.z = 0 then nrm y.z y.e else if y.z = 0 then nrm x.z x.e else nrm (x.z * 2 ^ (x.e - min x.e y.e).toNat + y.z * 2 ^ (y.e - min x.e y.e).toNat) (min x.e y.e)
def dMul (x y : Dy) : Dy := nrm (x.z * y.z) (x.e + y.e)
end Go.Proofs.Ytmjnifjohfljaaa
