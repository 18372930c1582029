/-
  Whole numbers, plain: signs, order, quotients rounded down and up.
-/
import Derived.Test.YtmjnifjohfljaaaTaVal
namespace Go.Proofs.Ytmjnifjohfljaaa
set_option linter.unusedSimpArgs false
set_option linter.unusedVariables false

/-- A sign and an amount. -/
def sg (s : Bool) (n : Nat) : Int := if s then -(n : Int) else (n : Int)
theorem sg_abs (s : Bool) (n : Nat) : (sg s n).natAbs = n := by cases s <;> simp [sg]
end Go.Proofs.Ytmjnifjohfljaaa
