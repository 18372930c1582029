/-
  Dyads, plain: what has few enough bits is not rounded.
-/
import Derived.Test.YtcknigodcjjahaaDoorDyT
namespace Go.Proofs.YtcknigodcjjahaaDoor
set_option linter.unusedSimpArgs false

theorem Rd.exact {P : Nat} {up : Bool} {t : Rat} {r s : Dy} (h : Rd P up (· ≤ t) (t ≤ ·) r) (hs : Short P s) (he : s.q = t) : r.q = t := by
  cases up
  · obtain ⟨h1, h2⟩ := h.dn rfl
    have := h2 s hs (by rw [he]; exact Rat.le_refl)
    exact rat_le_antisymm h1 (by rw [← he]; exact this)
  · obtain ⟨h1, h2⟩ := h.upw rfl
    have := h2 s hs (by rw [he]; exact Rat.le_refl)
    exact rat_le_antisymm (by rw [← he]; exact this) h1
theorem Rd.root {P : Nat} {up : Bool} {X : Rat} {r s : Dy} (h : Rd P up (leRt X) (geRt X) r) (hs : Short P s) (h0 : 0 ≤ s.q) (he : s.q * s.q = X) : r.q = s.q := by
  subst he
  cases up
  · obtain ⟨h1, h2⟩ := h.dn rfl
    have h3 := h2 s hs (.inr Rat.le_refl)
    rcases h1 with h1 | h1
    · grind
    · exact rat_le_antisymm (sq_le_of h0 h1) h3
  · obtain ⟨h1, h2⟩ := h.upw rfl
    have h3 := h2 s hs ⟨h0, Rat.le_refl⟩
    exact rat_le_antisymm h3 (sq_le_of h1.1 h1.2)
def sqrtQ (P : Nat) (up : Bool) (x : Dy) : Dy := if x.z ≤ 0 then ⟨0, 0⟩ else sqrtD P up x
theorem rnd_exact {P : Nat} {up : Bool} {x : Dy} (hP : 1 ≤ P) (hs : Short P x) : (rndD P up x).q = x.q := (rnd_rd P up x hP).exact hs rfl
theorem zero_q : Dy.q ⟨0, 0⟩ = 0 := q_zero.2 rfl
def quoQ (P : Nat) (up : Bool) (x y : Dy) : Dy := if y.z = 0 then ⟨0, 0⟩ else if x.z = 0 then ⟨0, 0⟩ else quoD P up x y
theorem quo_exact {P : Nat} {up : Bool} {x y : Dy} (hP : 1 ≤ P) (hs : Short P x) (hy : y.z ≠ 0) : (quoQ P up (dMul x y) y).q = x.q := by
  unfold quoQ
  rw [if_neg hy]
  by_cases h : (dMul x y).z = 0
  · rw [if_pos h, zero_q]
    have h1 := q_zero.2 h
    rw [dMul_q] at h1
    rcases Rat.mul_eq_zero.1 h1 with h2 | h2
    · exact h2.symm
    · exact absurd (q_zero.1 h2) hy
  · rw [if_neg h]
    exact (quo_rd (t := x.q) hP h hy (dMul_q x y).symm).exact hs rfl
def absD (x : Dy) : Dy := ⟨(x.z.natAbs : Int), x.e⟩
theorem absD_q (x : Dy) : 0 ≤ (absD x).q ∧ (absD x).q * (absD x).q = x.q * x.q := by
  have h : (absD x).q = if decide (x.z < 0) then -x.q else x.q := abs_q x
  refine ⟨q_nonneg _ _, ?_⟩
  rw [h]
  cases decide (x.z < 0) <;> simp <;> grind
theorem sqrt_exact {P : Nat} {up : Bool} {x : Dy} (hP : 1 ≤ P) (hs : Short P x) : (sqrtQ P up (dMul x x)).q = (absD x).q := by
  obtain ⟨a1, a2⟩ := absD_q x
  unfold sqrtQ
  have hsq : 0 ≤ (dMul x x).q := by
    rw [dMul_q, ← a2]
    have := sq_le (a := 0) (b := (absD x).q) Rat.le_refl a1
    simpa using this
  by_cases h : (dMul x x).z ≤ 0
  · rw [if_pos h, zero_q]
    have hz : (dMul x x).q = 0 := by
      by_cases h0 : (dMul x x).z = 0
      · exact q_zero.2 h0
      · have := q_neg.2 (show (dMul x x).z < 0 by omega)
        grind
    rw [dMul_q, ← a2] at hz
    rcases Rat.mul_eq_zero.1 hz with h2 | h2 <;> exact h2.symm
  · rw [if_neg h]
    refine (sqrt_rd hP (show 0 < (dMul x x).z by omega)).root (s := absD x) ?_ a1 (by rw [a2, dMul_q])
    unfold Short absD at *
    exact hs
end Go.Proofs.YtcknigodcjjahaaDoor
