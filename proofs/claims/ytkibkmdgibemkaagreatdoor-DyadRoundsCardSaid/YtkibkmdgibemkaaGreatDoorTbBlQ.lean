/-
  Balls: Quo.
-/
import Derived.Test.YtkibkmdgibemkaaGreatDoorTbBlA
import Derived.Test.YtkibkmdgibemkaaGreatDoorTbGRd
import Derived.Test.YtkibkmdgibemkaaGreatDoorTbLawDyA
namespace Go.Proofs.YtkibkmdgibemkaaGreatDoor
set_option linter.unusedSimpArgs false
open Go.RowKit

structure IX where
  s : Bool
  a : Option Addr
  k : Nat
  c : Nat
  z : Int
/-- Whole numbers at hand. -/
def IVL (w : World) (L : List IX) : Prop := ∀ (i : Nat) (y : IX), L[i]? = some y → IV w (.agg #[.bool y.s, .slice y.a y.k y.c]) y.z
theorem IVL.nil (w : World) : IVL w [] := fun i y h => by simp at h
theorem IVL.cons {w : World} {L : List IX} (h : IVL w L) {s : Bool} {A : Option Addr} {k c : Nat} {z : Int} (hv : IV w (.agg #[.bool s, .slice A k c]) z) : IVL w (⟨s, A, k, c, z⟩ :: L) := fun i y hy => by
  rcases i with _ | i
  · obtain rfl := (Option.some.inj hy).symm; exact hv
  · exact h i y hy
theorem IVL.step {w w' : World} {L : List IX} (h : IVL w L) (ho : Only [] w w') : IVL w' L := fun i y hy => (h i y hy).only ho
theorem IVL.at {w : World} {L : List IX} (h : Hid (IVL w L)) (i : Nat) {s : Bool} {A : Option Addr} {k c : Nat} {z : Int} (hi : L[i]? = some ⟨s, A, k, c, z⟩) : Hid (IV w (.agg #[.bool s, .slice A k c]) z) := h.out i _ hi
end Go.Proofs.YtkibkmdgibemkaaGreatDoor
