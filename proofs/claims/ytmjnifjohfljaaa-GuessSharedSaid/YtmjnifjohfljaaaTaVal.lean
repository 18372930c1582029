/-
  Whole numbers as lists of limbs of 64 bits, the lowest one first: the plain law (no program in sight).
-/
import Derived.Test.YtmjnifjohfljaaaTaMem
namespace Go.Proofs.Ytmjnifjohfljaaa

/-- The base of the limbs. -/
def BB : Nat := 18446744073709551616
attribute [irreducible] BB
/-- What a list of limbs is worth. -/
def val : List Nat → Nat
  | [] => 0
  | x :: xs => x + BB * val xs
/-- Each is a limb. -/
def Limb (xs : List Nat) : Prop := ∀ x ∈ xs, x < BB

theorem Limb.left {xs ys : List Nat} (h : Limb (xs ++ ys)) : Limb xs := fun x hx => h x (by simp [hx])
theorem Limb.right {xs ys : List Nat} (h : Limb (xs ++ ys)) : Limb ys := fun x hx => h x (by simp [hx])
theorem Limb.take {xs : List Nat} (h : Limb xs) (n : Nat) : Limb (xs.take n) := fun x hx => h x (List.mem_of_mem_take hx)
theorem Limb.drop {xs : List Nat} (h : Limb xs) (n : Nat) : Limb (xs.drop n) := fun x hx => h x (List.mem_of_mem_drop hx)
end Go.Proofs.Ytmjnifjohfljaaa
