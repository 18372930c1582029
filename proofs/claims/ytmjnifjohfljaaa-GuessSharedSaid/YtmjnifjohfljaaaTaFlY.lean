/-
  Floats, plain: a step; the two words beside a number; powers of two; sums.
-/
import Derived.Test.YtmjnifjohfljaaaTaFlX
namespace Go.Proofs.Ytmjnifjohfljaaa
set_option linter.unusedSimpArgs false

namespace Fl
/-- flo.Step. -/
def stepW (up : Bool) (s : Bool) (r : Nat) : Nat := if INF < r then wordB s r else if r = 0 then wordB (!up) 1 else if r = INF ∧ s = !up then wordB s r else if (!s) = up then wordB s r + 1 else wordB s r - 1
theorem cmp_beq (x y : Int) (o : Ordering) : (some (compare x y) == some o) = decide (compare x y = o) := by
  rw [Bool.eq_iff_iff]; simp
theorem inf_val : INF = 9218868437227405312 := rfl
end Fl
end Go.Proofs.Ytmjnifjohfljaaa
