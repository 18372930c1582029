/-
  Dyads, plain: what lies between two roundings.
-/
import Derived.Test.YtphjcphcgnjogaaDoorDyX
namespace Go.Proofs.YtphjcphcgnjogaaDoor
set_option linter.unusedSimpArgs false

theorem rnd_lo {P : Nat} {x : Dy} (hP : 1 ≤ P) : (rndD P false x).q ≤ x.q ∧ Short P (rndD P false x) := ⟨((rnd_rd P false x hP).dn rfl).1, (rnd_rd P false x hP).short⟩
theorem rnd_hi {P : Nat} {x : Dy} (hP : 1 ≤ P) : x.q ≤ (rndD P true x).q ∧ Short P (rndD P true x) := ⟨((rnd_rd P true x hP).upw rfl).1, (rnd_rd P true x hP).short⟩
/-- The middle of two. -/
def midD (a b : Dy) : Dy := nrm (dAdd a b).z ((dAdd a b).e - 1)
theorem midD_q (a b : Dy) : (midD a b).q + (midD a b).q = a.q + b.q := by
  unfold midD
  rw [nrm_q, ← dAdd_q]
  have h := q_down (dAdd a b).z (dAdd a b).e 1
  have e : (((dAdd a b).z * 2 ^ 1 : Int) : Rat) = ((dAdd a b).z : Rat) * 2 := by rw [Rat.intCast_mul]; rfl
  rw [e] at h
  unfold Dy.q
  have h2 : ((dAdd a b).e - ((1 : Nat) : Int)) = (dAdd a b).e - 1 := rfl
  rw [h2] at h
  grind
theorem no_mid {P : Nat} {x m : Dy} (hP : 1 ≤ P) (hm : Short P m) (h1 : (rndD P false x).q < m.q) (h2 : m.q < (rndD P true x).q) : False := by
  rcases Rat.le_total (a := m.q) (b := x.q) with h | h
  · have := ((rnd_rd P false x hP).dn rfl).2 m hm h
    grind
  · have := ((rnd_rd P true x hP).upw rfl).2 m hm h
    grind
theorem zero_short (P : Nat) : Short P ⟨0, 0⟩ := Nat.pow_pos (by decide)
theorem quo_law_q {P : Nat} {x y : Dy} (hP : 1 ≤ P) (hy : 0 < y.z) : (quoQ P false x y).q * y.q ≤ x.q ∧ x.q ≤ (quoQ P true x y).q * y.q ∧ (quoQ P false x y).q ≤ (quoQ P true x y).q ∧ Short P (quoQ P false x y) ∧ Short P (quoQ P true x y) := by
  have hy0 : y.z ≠ 0 := by omega
  have hyq := q_pos.2 hy
  unfold quoQ
  rw [if_neg hy0, if_neg hy0]
  by_cases hx : x.z = 0
  · rw [if_pos hx, if_pos hx, zero_q, q_zero.2 hx]
    exact ⟨by grind, by grind, Rat.le_refl, zero_short P, zero_short P⟩
  · rw [if_neg hx, if_neg hx]
    have ht : x.q / y.q * y.q = x.q := Rat.div_mul_cancel (by grind)
    have r1 := quo_rd (up := false) hP hx hy0 ht
    have r2 := quo_rd (up := true) hP hx hy0 ht
    have h1 := (r1.dn rfl).1
    have h2 := (r2.upw rfl).1
    have k1 := Rat.mul_le_mul_of_nonneg_right h1 (Rat.le_of_lt hyq)
    have k2 := Rat.mul_le_mul_of_nonneg_right h2 (Rat.le_of_lt hyq)
    rw [ht] at k1 k2
    exact ⟨k1, k2, Rat.le_trans h1 h2, r1.short, r2.short⟩
theorem sqrt_law_q {P : Nat} {x : Dy} (hP : 1 ≤ P) (hx : 0 ≤ x.z) : (sqrtQ P false x).q * (sqrtQ P false x).q ≤ x.q ∧ x.q ≤ (sqrtQ P true x).q * (sqrtQ P true x).q ∧ 0 ≤ (sqrtQ P false x).q ∧ Short P (sqrtQ P false x) ∧ Short P (sqrtQ P true x) := by
  unfold sqrtQ
  by_cases h : x.z ≤ 0
  · rw [if_pos h, if_pos h, zero_q, q_zero.2 (show x.z = 0 by omega)]
    exact ⟨by grind, by grind, Rat.le_refl, zero_short P, zero_short P⟩
  · rw [if_neg h, if_neg h]
    have r1 := sqrt_rd (up := false) (P := P) (x := x) hP (by omega)
    have r2 := sqrt_rd (up := true) (P := P) (x := x) hP (by omega)
    have h0 := (r1.dn rfl).2 ⟨0, 0⟩ (zero_short P) (.inl (by rw [zero_q]; exact Rat.le_refl))
    rw [zero_q] at h0
    have hxq := q_pos.2 (show 0 < x.z by omega)
    refine ⟨?_, (r2.upw rfl).1.2, h0, r1.short, r2.short⟩
    rcases (r1.dn rfl).1 with h1 | h1
    · have : (sqrtD P false x).q = 0 := by grind
      rw [this]
      grind
    · exact h1
theorem cmpQ_le {a b : Rat} (h : a ≤ b) : cmpQ a b ≤ 0 := by
  rcases rat_tri a b with h1 | h1 | h1
  · rw [cmpQ_lt h1]; decide
  · rw [cmpQ_eq h1]; decide
  · grind
theorem cmpQ_ge {a b : Rat} (h : b ≤ a) : 0 ≤ cmpQ a b := by
  rcases rat_tri a b with h1 | h1 | h1
  · grind
  · rw [cmpQ_eq h1]; decide
  · rw [cmpQ_gt h1]; decide
end Go.Proofs.YtphjcphcgnjogaaDoor
