/-
  Balls, plain: rounding grows with the number and with the width; products and quotients of corners.
-/
import Derived.Test.YtkibkmdgibemkaaGreatDoorTbBlQ
namespace Go.Proofs.YtkibkmdgibemkaaGreatDoor
set_option linter.unusedSimpArgs false

theorem Short.mono {P P' : Nat} {s : Dy} (h : Short P s) (hP : P ≤ P') : Short P' s := Nat.lt_of_lt_of_le h (two_mono hP)
/-- The quotient by value: what is rounded is t. -/
theorem quoQ_rd {P : Nat} {up : Bool} {x y : Dy} {t : Rat} (hP : 1 ≤ P) (hy : y.z ≠ 0) (ht : t * y.q = x.q) : Rd P up (· ≤ t) (t ≤ ·) (quoQ P up x y) := by
  unfold quoQ
  rw [if_neg hy]
  by_cases hx : x.z = 0
  · rw [if_pos hx]
    have hx0 : x.q = 0 := q_zero.2 hx
    have hy0 : y.q ≠ 0 := fun hc => hy (q_zero.1 hc)
    have ht0 : t = 0 := by
      rcases Rat.mul_eq_zero.1 (ht.trans hx0) with h | h
      · exact h
      · exact absurd h hy0
    subst ht0
    have h0 : Dy.q ⟨0, 0⟩ = 0 := zero_q
    refine ⟨.inl ⟨rfl, rfl⟩, ?_, fun _ => ?_, fun _ => ?_⟩
    · show (0 : Int).natAbs < 2 ^ P
      exact Nat.pow_pos (by decide)
    · show Dy.q ⟨0, 0⟩ ≤ 0 ∧ ∀ s, Short P s → s.q ≤ 0 → s.q ≤ Dy.q ⟨0, 0⟩
      rw [h0]
      exact ⟨Rat.le_refl, fun s _ h => h⟩
    · show 0 ≤ Dy.q ⟨0, 0⟩ ∧ ∀ s, Short P s → 0 ≤ s.q → Dy.q ⟨0, 0⟩ ≤ s.q
      rw [h0]
      exact ⟨Rat.le_refl, fun s _ h => h⟩
  · rw [if_neg hx]
    exact quo_rd hP hx hy ht
theorem quo_exists {x y : Dy} (hy : y.z ≠ 0) : (x.q / y.q) * y.q = x.q := Rat.div_mul_cancel (fun hc => hy (q_zero.1 hc))
theorem quoQ_congr {P : Nat} {up : Bool} {x y x' y' : Dy} (hP : 1 ≤ P) (hy : y.z ≠ 0) (hx : x.q = x'.q) (he : y.q = y'.q) : quoQ P up x y = quoQ P up x' y' := by
  have hy' : y'.z ≠ 0 := fun hc => hy (q_zero.1 (he.trans (q_zero.2 hc)))
  exact (quoQ_rd hP hy (quo_exists hy)).unique (quoQ_rd hP hy' (by rw [← he, ← hx]; exact quo_exists hy))
end Go.Proofs.YtkibkmdgibemkaaGreatDoor
