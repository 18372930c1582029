/-
  Floats, plain: a step; the two words beside a number; powers of two; sums.
-/
import Derived.Test.YtgiejjpemhceiaaDoorTeFlX
namespace Go.Proofs.YtgiejjpemhceiaaDoor
set_option linter.unusedSimpArgs false

namespace Fl
def stepW (up : Bool) (s : Bool) (r : Nat) : Nat := if INF < r then wordB s r else if r = 0 then wordB (!up) 1 else if r = INF ∧ s = !up then wordB s r else if (!s) = up then wordB s r + 1 else wordB s r - 1
theorem cmp_beq (x y : Int) (o : Ordering) : (some (compare x y) == some o) = decide (compare x y = o) := by
  rw [Bool.eq_iff_iff]; simp
theorem inf_val : INF = 9218868437227405312 := rfl
theorem word_suc (s : Bool) (r : Nat) : wordB s r + 1 = wordB s (r + 1) := by cases s <;> simp [wordB] <;> omega
theorem word_pre (s : Bool) {r : Nat} (h : 0 < r) : wordB s r - 1 = wordB s (r - 1) := by cases s <;> simp [wordB] <;> omega
theorem fD_le {a : Bool} {r : Nat} {q : Rat} (h : (if a then -ru r else ru r) ≤ q) : (fD a r).q ≤ q := by
  rw [fD_q]
  cases a
  · simpa [sg, ru] using h
  · have e : ((sg true (NR r) : Int) : Rat) * p2 (-1074) = -ru r := by
      unfold ru sg
      simp only [if_true]
      push_cast
      rw [Rat.neg_mul]
    rw [e]
    exact h
theorem fD_ge {a : Bool} {r : Nat} {q : Rat} (h : q ≤ (if a then -ru r else ru r)) : q ≤ (fD a r).q := by
  rw [fD_q]
  cases a
  · simpa [sg, ru] using h
  · have e : ((sg true (NR r) : Int) : Rat) * p2 (-1074) = -ru r := by
      unfold ru sg
      simp only [if_true]
      push_cast
      rw [Rat.neg_mul]
    rw [e]
    exact h
theorem fD_val (a : Bool) (r : Nat) : (fD a r).q = (if a then -ru r else ru r) := rat_le_antisymm (fD_le (by grind)) (fD_ge (by grind))
end Fl
end Go.Proofs.YtgiejjpemhceiaaDoor
