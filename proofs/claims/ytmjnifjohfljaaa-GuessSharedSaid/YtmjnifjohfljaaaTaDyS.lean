/-
  Dyads, plain: quotients and roots, rounded.
-/
import Derived.Test.YtmjnifjohfljaaaTaDyR
namespace Go.Proofs.Ytmjnifjohfljaaa
set_option linter.unusedSimpArgs false

theorem sq_le_of {a b : Rat} (h0 : 0 ≤ b) (h : a * a ≤ b * b) : a ≤ b := by
  apply Decidable.byContradiction
  intro hc
  have h3 : b < a := Rat.not_le.1 hc
  have h1 := Rat.mul_le_mul_of_nonneg_left (Rat.le_of_lt h3) h0
  have h2 := Rat.mul_lt_mul_of_pos_right h3 (show 0 < a by grind)
  grind
/-- What is not above a root, and not below it. -/
def leRt (X : Rat) (s : Rat) : Prop := s ≤ 0 ∨ s * s ≤ X
def geRt (X : Rat) (s : Rat) : Prop := 0 ≤ s ∧ X ≤ s * s
/-! ### Quotients -/
end Go.Proofs.Ytmjnifjohfljaaa
