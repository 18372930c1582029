/-
  Products by parts: the plain law.
-/
import Derived.Test.YtphjcphcgnjogaaDoorValC
namespace Go.Proofs.YtphjcphcgnjogaaDoor

theorem kara_plus {a0 a1 b0 b1 : Nat} (h : a0 < a1 ↔ b1 < b0) : a0 * b0 + a1 * b1 + (if a0 < a1 then a1 - a0 else a0 - a1) * (if b1 < b0 then b0 - b1 else b1 - b0) = a0 * b1 + a1 * b0 := by
  by_cases ha : a0 < a1
  · have hb := h.1 ha
    rw [if_pos ha, if_pos hb]
    obtain ⟨p, rfl⟩ : ∃ p, a1 = a0 + p := ⟨a1 - a0, by omega⟩
    obtain ⟨q, rfl⟩ : ∃ q, b0 = b1 + q := ⟨b0 - b1, by omega⟩
    simp only [Nat.add_sub_cancel_left, Nat.mul_add, Nat.add_mul]
    omega
  · have hb : ¬ b1 < b0 := fun hb => ha (h.2 hb)
    rw [if_neg ha, if_neg hb]
    obtain ⟨p, rfl⟩ : ∃ p, a0 = a1 + p := ⟨a0 - a1, by omega⟩
    obtain ⟨q, rfl⟩ : ∃ q, b1 = b0 + q := ⟨b1 - b0, by omega⟩
    simp only [Nat.add_sub_cancel_left, Nat.mul_add, Nat.add_mul]
    omega
theorem kara_minus {a0 a1 b0 b1 : Nat} (h : ¬ (a0 < a1 ↔ b1 < b0)) : a0 * b1 + a1 * b0 + (if a0 < a1 then a1 - a0 else a0 - a1) * (if b1 < b0 then b0 - b1 else b1 - b0) = a0 * b0 + a1 * b1 := by
  by_cases ha : a0 < a1
  · have hb : ¬ b1 < b0 := fun hb => h ⟨fun _ => hb, fun _ => ha⟩
    rw [if_pos ha, if_neg hb]
    obtain ⟨p, rfl⟩ : ∃ p, a1 = a0 + p := ⟨a1 - a0, by omega⟩
    obtain ⟨q, rfl⟩ : ∃ q, b1 = b0 + q := ⟨b1 - b0, by omega⟩
    simp only [Nat.add_sub_cancel_left, Nat.mul_add, Nat.add_mul]
    omega
  · have hb : b1 < b0 := by
      apply Classical.byContradiction
      intro hb
      exact h ⟨fun h1 => absurd h1 ha, fun h1 => absurd h1 hb⟩
    rw [if_neg ha, if_pos hb]
    obtain ⟨p, rfl⟩ : ∃ p, a0 = a1 + p := ⟨a0 - a1, by omega⟩
    obtain ⟨q, rfl⟩ : ∃ q, b0 = b1 + q := ⟨b0 - b1, by omega⟩
    simp only [Nat.add_sub_cancel_left, Nat.mul_add, Nat.add_mul]
    omega
theorem kara_whole (a0 a1 b0 b1 P : Nat) : (a0 + P * a1) * (b0 + P * b1) = a0 * b0 + P * P * (a1 * b1) + P * (a0 * b1 + a1 * b0) := by
  simp only [Nat.mul_add, Nat.add_mul]
  have e1 : a0 * (P * b1) = P * (a0 * b1) := Nat.mul_left_comm _ _ _
  have e2 : P * a1 * b0 = P * (a1 * b0) := Nat.mul_assoc _ _ _
  have e3 : P * a1 * (P * b1) = P * P * (a1 * b1) := Nat.mul_mul_mul_comm _ _ _ _
  omega
theorem mul_lt_pow {a b m n : Nat} (ha : a < BB ^ m) (hb : b < BB ^ n) : a * b < BB ^ (m + n) := by
  rw [Nat.pow_add]
  exact Nat.mul_lt_mul'' ha hb
theorem div_pow_lt {x m n : Nat} (h : BB ^ m * x < BB ^ n) (hmn : m ≤ n) : x < BB ^ (n - m) := by
  apply Nat.lt_of_not_le
  intro h1
  have h2 := Nat.mul_le_mul_left (BB ^ m) h1
  rw [← Nat.pow_add, show m + (n - m) = n by omega] at h2
  omega
end Go.Proofs.YtphjcphcgnjogaaDoor
