/-
  Numbers as they are handed in: Of, Light; short.
-/
import Derived.Test.YtigpnopeacicpaaDoorTaDyK
import Derived.Test.YtigpnopeacicpaaDoorTaLimbsIn
namespace Go.Proofs.YtigpnopeacicpaaDoor
set_option linter.unusedSimpArgs false
open Go.RowKit

/-- A whole number that is read. -/
def isWV (z : Int) : VP := fun u w => ∃ s A k c, u = .agg #[.bool s, .slice A k c] ∧ IV w u z

theorem isWV.lasts (z : Int) : Lasts (isWV z) := fun _ _ _ ⟨s, A, k, c, h1, h4⟩ ho => ⟨s, A, k, c, h1, h4.only ho⟩

theorem all_isWV {z : Int} {w : World} {K : Value → Prop} (h : ∀ s A k c, Hid (IV w (.agg #[.bool s, .slice A k c]) z) → K (.agg #[.bool s, .slice A k c])) : ∀ v, isWV z v w → K v := fun v ⟨s, A, k, c, h1, h4⟩ => by
  subst h1
  exact h s A k c h4

/-- A number as it is handed in. -/
structure NR where
  s : Bool
  a : Option Addr
  n : Nat
  c : Nat
  e : Int

def NR.v (x : NR) : Value := .agg #[.bool x.s, .slice x.a x.n x.c, .int .i64 x.e]

def NR.ok (x : NR) : Bool := decide (x.n ≤ 40) && decide (-3000 ≤ x.e) && decide (x.e ≤ 3000)

end Go.Proofs.YtigpnopeacicpaaDoor
