/-
  Balls, plain: rounding grows with the number and with the width; products and quotients of corners.
-/
import Derived.Test.YtgiejjpemhceiaaDoorTcBlR
namespace Go.Proofs.YtgiejjpemhceiaaDoor
set_option linter.unusedSimpArgs false

theorem Short.mono {P P' : Nat} {s : Dy} (h : Short P s) (hP : P ≤ P') : Short P' s := Nat.lt_of_lt_of_le h (two_mono hP)
theorem Rd.le_down {P P' : Nat} {t t' : Rat} {r r' : Dy} (h : Rd P false (· ≤ t) (t ≤ ·) r) (h' : Rd P' false (· ≤ t') (t' ≤ ·) r') (hP : P ≤ P') (ht : t ≤ t') : r.q ≤ r'.q :=
  (h'.dn rfl).2 r (h.short.mono hP) (Rat.le_trans (h.dn rfl).1 ht)
theorem Rd.le_up {P P' : Nat} {t t' : Rat} {r r' : Dy} (h : Rd P true (· ≤ t) (t ≤ ·) r) (h' : Rd P' true (· ≤ t') (t' ≤ ·) r') (hP : P ≤ P') (ht : t' ≤ t) : r'.q ≤ r.q :=
  (h'.upw rfl).2 r (h.short.mono hP) (Rat.le_trans ht (h.upw rfl).1)
theorem rnd_le_down {P P' : Nat} {x y : Dy} (h1 : 1 ≤ P) (hP : P ≤ P') (h : x.q ≤ y.q) : (rndD P false x).q ≤ (rndD P' false y).q :=
  (rnd_rd P false x h1).le_down (rnd_rd P' false y (by omega)) hP h
theorem rnd_le_up {P P' : Nat} {x y : Dy} (h1 : 1 ≤ P) (hP : P ≤ P') (h : y.q ≤ x.q) : (rndD P' true y).q ≤ (rndD P true x).q :=
  (rnd_rd P true x h1).le_up (rnd_rd P' true y (by omega)) hP h
theorem minD_le1 (a b : Dy) : (minD a b).q ≤ a.q := by unfold minD; split <;> grind
theorem minD_le2 (a b : Dy) : (minD a b).q ≤ b.q := by unfold minD; split <;> grind
theorem maxD_ge1 (a b : Dy) : a.q ≤ (maxD a b).q := by unfold maxD; split <;> grind
theorem maxD_ge2 (a b : Dy) : b.q ≤ (maxD a b).q := by unfold maxD; split <;> grind
/-- The corners' products. -/
def mulLo (x y u v : Dy) : Dy := minD (minD (minD (dMul x u) (dMul x v)) (dMul y u)) (dMul y v)
def mulHi (x y u v : Dy) : Dy := maxD (maxD (maxD (dMul x u) (dMul x v)) (dMul y u)) (dMul y v)
theorem mulLo_le (x y u v : Dy) : (mulLo x y u v).q ≤ x.q * u.q ∧ (mulLo x y u v).q ≤ x.q * v.q ∧ (mulLo x y u v).q ≤ y.q * u.q ∧ (mulLo x y u v).q ≤ y.q * v.q := by
  have h1 := minD_le1 (minD (minD (dMul x u) (dMul x v)) (dMul y u)) (dMul y v)
  have h2 := minD_le2 (minD (minD (dMul x u) (dMul x v)) (dMul y u)) (dMul y v)
  have h3 := minD_le1 (minD (dMul x u) (dMul x v)) (dMul y u)
  have h4 := minD_le2 (minD (dMul x u) (dMul x v)) (dMul y u)
  have h5 := minD_le1 (dMul x u) (dMul x v)
  have h6 := minD_le2 (dMul x u) (dMul x v)
  rw [dMul_q] at h2 h4 h5 h6
  unfold mulLo
  exact ⟨Rat.le_trans h1 (Rat.le_trans h3 h5), Rat.le_trans h1 (Rat.le_trans h3 h6), Rat.le_trans h1 h4, h2⟩
theorem mulHi_ge (x y u v : Dy) : x.q * u.q ≤ (mulHi x y u v).q ∧ x.q * v.q ≤ (mulHi x y u v).q ∧ y.q * u.q ≤ (mulHi x y u v).q ∧ y.q * v.q ≤ (mulHi x y u v).q := by
  have h1 := maxD_ge1 (maxD (maxD (dMul x u) (dMul x v)) (dMul y u)) (dMul y v)
  have h2 := maxD_ge2 (maxD (maxD (dMul x u) (dMul x v)) (dMul y u)) (dMul y v)
  have h3 := maxD_ge1 (maxD (dMul x u) (dMul x v)) (dMul y u)
  have h4 := maxD_ge2 (maxD (dMul x u) (dMul x v)) (dMul y u)
  have h5 := maxD_ge1 (dMul x u) (dMul x v)
  have h6 := maxD_ge2 (dMul x u) (dMul x v)
  rw [dMul_q] at h2 h4 h5 h6
  unfold mulHi
  exact ⟨Rat.le_trans h5 (Rat.le_trans h3 h1), Rat.le_trans h6 (Rat.le_trans h3 h1), Rat.le_trans h4 h1, h2⟩
theorem mulLo_self (x u : Dy) : mulLo x x u u = dMul x u := by unfold mulLo; simp only [minD_self]
theorem mulHi_self (x u : Dy) : mulHi x x u u = dMul x u := by unfold mulHi; simp only [maxD_self]
theorem qLo_self (P : Nat) (x u : Dy) : qLo P x x u u = quoQ P false x u := by unfold qLo; simp only [minD_self]
theorem qHi_self (P : Nat) (x u : Dy) : qHi P x x u u = quoQ P true x u := by unfold qHi; simp only [maxD_self]
theorem qLo_le (P : Nat) (x y u v : Dy) : (qLo P x y u v).q ≤ (quoQ P false x u).q ∧ (qLo P x y u v).q ≤ (quoQ P false x v).q ∧ (qLo P x y u v).q ≤ (quoQ P false y u).q ∧ (qLo P x y u v).q ≤ (quoQ P false y v).q := by
  have h1 := minD_le1 (minD (minD (quoQ P false x u) (quoQ P false x v)) (quoQ P false y u)) (quoQ P false y v)
  have h2 := minD_le2 (minD (minD (quoQ P false x u) (quoQ P false x v)) (quoQ P false y u)) (quoQ P false y v)
  have h3 := minD_le1 (minD (quoQ P false x u) (quoQ P false x v)) (quoQ P false y u)
  have h4 := minD_le2 (minD (quoQ P false x u) (quoQ P false x v)) (quoQ P false y u)
  have h5 := minD_le1 (quoQ P false x u) (quoQ P false x v)
  have h6 := minD_le2 (quoQ P false x u) (quoQ P false x v)
  unfold qLo
  exact ⟨Rat.le_trans h1 (Rat.le_trans h3 h5), Rat.le_trans h1 (Rat.le_trans h3 h6), Rat.le_trans h1 h4, h2⟩
theorem qHi_ge (P : Nat) (x y u v : Dy) : (quoQ P true x u).q ≤ (qHi P x y u v).q ∧ (quoQ P true x v).q ≤ (qHi P x y u v).q ∧ (quoQ P true y u).q ≤ (qHi P x y u v).q ∧ (quoQ P true y v).q ≤ (qHi P x y u v).q := by
  have h1 := maxD_ge1 (maxD (maxD (quoQ P true x u) (quoQ P true x v)) (quoQ P true y u)) (quoQ P true y v)
  have h2 := maxD_ge2 (maxD (maxD (quoQ P true x u) (quoQ P true x v)) (quoQ P true y u)) (quoQ P true y v)
  have h3 := maxD_ge1 (maxD (quoQ P true x u) (quoQ P true x v)) (quoQ P true y u)
  have h4 := maxD_ge2 (maxD (quoQ P true x u) (quoQ P true x v)) (quoQ P true y u)
  have h5 := maxD_ge1 (quoQ P true x u) (quoQ P true x v)
  have h6 := maxD_ge2 (quoQ P true x u) (quoQ P true x v)
  unfold qHi
  exact ⟨Rat.le_trans h5 (Rat.le_trans h3 h1), Rat.le_trans h6 (Rat.le_trans h3 h1), Rat.le_trans h4 h1, h2⟩
/-- The quotient by value: what is rounded is t. -/
theorem quoQ_rd {P : Nat} {up : Bool} {x y : Dy} {t : Rat} (hP : 1 ≤ P) (hy : y.z ≠ 0) (ht : t * y.q = x.q) : Rd P up (· ≤ t) (t ≤ ·) (quoQ P up x y) := by
  unfold quoQ
  rw [if_neg hy]
  by_cases hx : x.z = 0
  · rw [if_pos hx]
    have hx0 : x.q = 0 := q_zero.2 hx
    have hy0 : y.q ≠ 0 := fun hc => hy (q_zero.1 hc)
    have ht0 : t = 0 := by
      rcases Rat.mul_eq_zero.1 (ht.trans hx0) with h | h
      · exact h
      · exact absurd h hy0
    subst ht0
    have h0 : Dy.q ⟨0, 0⟩ = 0 := zero_q
    refine ⟨.inl ⟨rfl, rfl⟩, ?_, fun _ => ?_, fun _ => ?_⟩
    · show (0 : Int).natAbs < 2 ^ P
      exact Nat.pow_pos (by decide)
    · show Dy.q ⟨0, 0⟩ ≤ 0 ∧ ∀ s, Short P s → s.q ≤ 0 → s.q ≤ Dy.q ⟨0, 0⟩
      rw [h0]
      exact ⟨Rat.le_refl, fun s _ h => h⟩
    · show 0 ≤ Dy.q ⟨0, 0⟩ ∧ ∀ s, Short P s → 0 ≤ s.q → Dy.q ⟨0, 0⟩ ≤ s.q
      rw [h0]
      exact ⟨Rat.le_refl, fun s _ h => h⟩
  · rw [if_neg hx]
    exact quo_rd hP hx hy ht
theorem quo_exists {x y : Dy} (hy : y.z ≠ 0) : (x.q / y.q) * y.q = x.q := Rat.div_mul_cancel (fun hc => hy (q_zero.1 hc))
theorem quoQ_congr {P : Nat} {up : Bool} {x y x' y' : Dy} (hP : 1 ≤ P) (hy : y.z ≠ 0) (hx : x.q = x'.q) (he : y.q = y'.q) : quoQ P up x y = quoQ P up x' y' := by
  have hy' : y'.z ≠ 0 := fun hc => hy (q_zero.1 (he.trans (q_zero.2 hc)))
  exact (quoQ_rd hP hy (quo_exists hy)).unique (quoQ_rd hP hy' (by rw [← he, ← hx]; exact quo_exists hy))
end Go.Proofs.YtgiejjpemhceiaaDoor
