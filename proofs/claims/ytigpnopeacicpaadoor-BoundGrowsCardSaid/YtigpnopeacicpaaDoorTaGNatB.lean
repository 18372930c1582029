/-
  nat: math/bits' Mul64, Len64, LeadingZeros64; products limb by limb.
-/
import Derived.Test.YtigpnopeacicpaaDoorTaGNatA
import Derived.Test.YtigpnopeacicpaaDoorTaShelf
import Derived.IntWalk
import Derived.Test.YtigpnopeacicpaaDoorTaGVal
import Derived.StillTailTactics
namespace Go.Proofs.YtigpnopeacicpaaDoor
open Go.RowKit

theorem u64_wrap {a : Nat} (h : a < BB) : IntKind.u64.wrap (a : Int) = (a : Int) := by
  rw [BB_val] at h
  rw [IntKind.wrap_u64]
  omega
theorem val_nil : val [] = 0 := rfl

end Go.Proofs.YtigpnopeacicpaaDoor
/-
  nat: products by parts: mul, Mul.
-/
namespace Go.Proofs.YtigpnopeacicpaaDoor
open Go.RowKit

theorem LRead.drop {w : World} {b o : Nat} {xs : List Nat} (h : LRead w (some ⟨b, o, none⟩) xs) (m : Nat) : LRead w (some ⟨b, o + m, none⟩) (xs.drop m) := fun k hk => by
  rw [List.length_drop] at hk
  obtain ⟨b', o', e, hc⟩ := h (m + k) (by omega)
  injection e with e
  injection e with e1 e2 _
  subst e1 e2
  exact ⟨b, o + m, rfl, by rw [List.getElem?_drop, Nat.add_assoc]; exact hc⟩
theorem Arg.drop {w : World} {b o : Nat} {xs : List Nat} (h : Arg w (some ⟨b, o, none⟩) xs) (m : Nat) : Arg w (some ⟨b, o + m, none⟩) (xs.drop m) :=
  ⟨h.read.drop m, h.limb.drop m, by have := h.len; simp; omega⟩
theorem Arg.take {w : World} {A : Option Addr} {xs : List Nat} (h : Arg w A xs) (m : Nat) : Arg w A (xs.take m) :=
  ⟨h.read.take m, h.limb.take m, by have := h.len; simp; omega⟩
end Go.Proofs.YtigpnopeacicpaaDoor
