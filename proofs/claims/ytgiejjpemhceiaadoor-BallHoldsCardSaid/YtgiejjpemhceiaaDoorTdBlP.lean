/-
  Balls, plain: rounding grows with the number and with the width; products and quotients of corners.
-/
import Derived.Test.YtgiejjpemhceiaaDoorTdBlR
namespace Go.Proofs.YtgiejjpemhceiaaDoor
set_option linter.unusedSimpArgs false

theorem Short.mono {P P' : Nat} {s : Dy} (h : Short P s) (hP : P ≤ P') : Short P' s := Nat.lt_of_lt_of_le h (two_mono hP)
theorem rnd_down_le {P : Nat} {x : Dy} (h1 : 1 ≤ P) : (rndD P false x).q ≤ x.q := ((rnd_rd P false x h1).dn rfl).1
theorem rnd_up_ge {P : Nat} {x : Dy} (h1 : 1 ≤ P) : x.q ≤ (rndD P true x).q := ((rnd_rd P true x h1).upw rfl).1
theorem minD_le1 (a b : Dy) : (minD a b).q ≤ a.q := by unfold minD; split <;> grind
theorem minD_le2 (a b : Dy) : (minD a b).q ≤ b.q := by unfold minD; split <;> grind
theorem maxD_ge1 (a b : Dy) : a.q ≤ (maxD a b).q := by unfold maxD; split <;> grind
theorem maxD_ge2 (a b : Dy) : b.q ≤ (maxD a b).q := by unfold maxD; split <;> grind
def mulLo (x y u v : Dy) : Dy := minD (minD (minD (dMul x u) (dMul x v)) (dMul y u)) (dMul y v)
def mulHi (x y u v : Dy) : Dy := maxD (maxD (maxD (dMul x u) (dMul x v)) (dMul y u)) (dMul y v)
theorem mulLo_le (x y u v : Dy) : (mulLo x y u v).q ≤ x.q * u.q ∧ (mulLo x y u v).q ≤ x.q * v.q ∧ (mulLo x y u v).q ≤ y.q * u.q ∧ (mulLo x y u v).q ≤ y.q * v.q := by
  have h1 := minD_le1 (minD (minD (dMul x u) (dMul x v)) (dMul y u)) (dMul y v)
  have h2 := minD_le2 (minD (minD (dMul x u) (dMul x v)) (dMul y u)) (dMul y v)
  have h3 := minD_le1 (minD (dMul x u) (dMul x v)) (dMul y u)
  have h4 := minD_le2 (minD (dMul x u) (dMul x v)) (dMul y u)
  have h5 := minD_le1 (dMul x u) (dMul x v)
  have h6 := minD_le2 (dMul x u) (dMul x v)
  rw [dMul_q] at h2 h4 h5 h6
  unfold mulLo
  exact ⟨Rat.le_trans h1 (Rat.le_trans h3 h5), Rat.le_trans h1 (Rat.le_trans h3 h6), Rat.le_trans h1 h4, h2⟩
theorem mulHi_ge (x y u v : Dy) : x.q * u.q ≤ (mulHi x y u v).q ∧ x.q * v.q ≤ (mulHi x y u v).q ∧ y.q * u.q ≤ (mulHi x y u v).q ∧ y.q * v.q ≤ (mulHi x y u v).q := by
  have h1 := maxD_ge1 (maxD (maxD (dMul x u) (dMul x v)) (dMul y u)) (dMul y v)
  have h2 := maxD_ge2 (maxD (maxD (dMul x u) (dMul x v)) (dMul y u)) (dMul y v)
  have h3 := maxD_ge1 (maxD (dMul x u) (dMul x v)) (dMul y u)
  have h4 := maxD_ge2 (maxD (dMul x u) (dMul x v)) (dMul y u)
  have h5 := maxD_ge1 (dMul x u) (dMul x v)
  have h6 := maxD_ge2 (dMul x u) (dMul x v)
  rw [dMul_q] at h2 h4 h5 h6
  unfold mulHi
  exact ⟨Rat.le_trans h5 (Rat.le_trans h3 h1), Rat.le_trans h6 (Rat.le_trans h3 h1), Rat.le_trans h4 h1, h2⟩
theorem qLo_le (P : Nat) (x y u v : Dy) : (qLo P x y u v).q ≤ (quoQ P false x u).q ∧ (qLo P x y u v).q ≤ (quoQ P false x v).q ∧ (qLo P x y u v).q ≤ (quoQ P false y u).q ∧ (qLo P x y u v).q ≤ (quoQ P false y v).q := by
  have h1 := minD_le1 (minD (minD (quoQ P false x u) (quoQ P false x v)) (quoQ P false y u)) (quoQ P false y v)
  have h2 := minD_le2 (minD (minD (quoQ P false x u) (quoQ P false x v)) (quoQ P false y u)) (quoQ P false y v)
  have h3 := minD_le1 (minD (quoQ P false x u) (quoQ P false x v)) (quoQ P false y u)
  have h4 := minD_le2 (minD (quoQ P false x u) (quoQ P false x v)) (quoQ P false y u)
  have h5 := minD_le1 (quoQ P false x u) (quoQ P false x v)
  have h6 := minD_le2 (quoQ P false x u) (quoQ P false x v)
  unfold qLo
  exact ⟨Rat.le_trans h1 (Rat.le_trans h3 h5), Rat.le_trans h1 (Rat.le_trans h3 h6), Rat.le_trans h1 h4, h2⟩
theorem qHi_ge (P : Nat) (x y u v : Dy) : (quoQ P true x u).q ≤ (qHi P x y u v).q ∧ (quoQ P true x v).q ≤ (qHi P x y u v).q ∧ (quoQ P true y u).q ≤ (qHi P x y u v).q ∧ (quoQ P true y v).q ≤ (qHi P x y u v).q := by
  have h1 := maxD_ge1 (maxD (maxD (quoQ P true x u) (quoQ P true x v)) (quoQ P true y u)) (quoQ P true y v)
  have h2 := maxD_ge2 (maxD (maxD (quoQ P true x u) (quoQ P true x v)) (quoQ P true y u)) (quoQ P true y v)
  have h3 := maxD_ge1 (maxD (quoQ P true x u) (quoQ P true x v)) (quoQ P true y u)
  have h4 := maxD_ge2 (maxD (quoQ P true x u) (quoQ P true x v)) (quoQ P true y u)
  have h5 := maxD_ge1 (quoQ P true x u) (quoQ P true x v)
  have h6 := maxD_ge2 (quoQ P true x u) (quoQ P true x v)
  unfold qHi
  exact ⟨Rat.le_trans h5 (Rat.le_trans h3 h1), Rat.le_trans h6 (Rat.le_trans h3 h1), Rat.le_trans h4 h1, h2⟩
theorem quoQ_rd {P : Nat} {up : Bool} {x y : Dy} {t : Rat} (hP : 1 ≤ P) (hy : y.z ≠ 0) (ht : t * y.q = x.q) : Rd P up (· ≤ t) (t ≤ ·) (quoQ P up x y) := by
  unfold quoQ
  rw [if_neg hy]
  by_cases hx : x.z = 0
  · rw [if_pos hx]
    have hx0 : x.q = 0 := q_zero.2 hx
    have hy0 : y.q ≠ 0 := fun hc => hy (q_zero.1 hc)
    have ht0 : t = 0 := by
      rcases Rat.mul_eq_zero.1 (ht.trans hx0) with h | h
      · exact h
      · exact absurd h hy0
    subst ht0
    have h0 : Dy.q ⟨0, 0⟩ = 0 := zero_q
    refine ⟨.inl ⟨rfl, rfl⟩, ?_, fun _ => ?_, fun _ => ?_⟩
    · show (0 : Int).natAbs < 2 ^ P
      exact Nat.pow_pos (by decide)
    · show Dy.q ⟨0, 0⟩ ≤ 0 ∧ ∀ s, Short P s → s.q ≤ 0 → s.q ≤ Dy.q ⟨0, 0⟩
      rw [h0]
      exact ⟨Rat.le_refl, fun s _ h => h⟩
    · show 0 ≤ Dy.q ⟨0, 0⟩ ∧ ∀ s, Short P s → 0 ≤ s.q → Dy.q ⟨0, 0⟩ ≤ s.q
      rw [h0]
      exact ⟨Rat.le_refl, fun s _ h => h⟩
  · rw [if_neg hx]
    exact quo_rd hP hx hy ht
theorem quo_exists {x y : Dy} (hy : y.z ≠ 0) : (x.q / y.q) * y.q = x.q := Rat.div_mul_cancel (fun hc => hy (q_zero.1 hc))
theorem corner {a b x y m : Rat} (h1 : a ≤ x) (h2 : x ≤ b) (ha : m ≤ a * y) (hb : m ≤ b * y) : m ≤ x * y := by
  rcases Rat.le_total (a := 0) (b := y) with h | h
  · have := Rat.mul_le_mul_of_nonneg_right h1 h
    grind
  · have := Rat.mul_le_mul_of_nonneg_right h2 (show (0:Rat) ≤ -y by grind)
    grind
theorem between_quo {x y u v t t0 t1 m : Rat} (h : t * y = x) (h0 : t0 * u = x) (h1 : t1 * v = x) (hu : u ≤ y) (hv : y ≤ v) (hs : 0 < u ∨ v < 0) (m0 : m ≤ t0) (m1 : m ≤ t1) : m ≤ t := by
  refine Decidable.byContradiction fun hc => ?_
  have c0 : t < t0 := by grind
  have c1 : t < t1 := by grind
  rcases hs with hs | hs
  · have e0 := Rat.mul_lt_mul_of_pos_right c0 hs
    have e1 := Rat.mul_lt_mul_of_pos_right c1 (show 0 < v by grind)
    rcases Rat.le_total (a := 0) (b := t) with ht | ht
    · have := Rat.mul_le_mul_of_nonneg_left hv ht
      grind
    · have := Rat.mul_le_mul_of_nonneg_left hu (show 0 ≤ -t by grind)
      grind
  · have e0 := Rat.mul_lt_mul_of_pos_right c0 (show 0 < -u by grind)
    have e1 := Rat.mul_lt_mul_of_pos_right c1 (show 0 < -v by grind)
    rcases Rat.le_total (a := 0) (b := t) with ht | ht
    · have := Rat.mul_le_mul_of_nonneg_left hu ht
      grind
    · have := Rat.mul_le_mul_of_nonneg_left hv (show 0 ≤ -t by grind)
      grind
theorem box_lo {x0 x1 u v x y m : Rat} (hx : x0 ≤ x ∧ x ≤ x1) (hy : u ≤ y ∧ y ≤ v) (h : m ≤ x0 * u ∧ m ≤ x0 * v ∧ m ≤ x1 * u ∧ m ≤ x1 * v) : m ≤ x * y := by
  refine corner hx.1 hx.2 ?_ ?_
  · rw [Rat.mul_comm]
    exact corner hy.1 hy.2 (by rw [Rat.mul_comm]; exact h.1) (by rw [Rat.mul_comm]; exact h.2.1)
  · rw [Rat.mul_comm]
    exact corner hy.1 hy.2 (by rw [Rat.mul_comm]; exact h.2.2.1) (by rw [Rat.mul_comm]; exact h.2.2.2)
theorem box_hi {x0 x1 u v x y m : Rat} (hx : x0 ≤ x ∧ x ≤ x1) (hy : u ≤ y ∧ y ≤ v) (h : x0 * u ≤ m ∧ x0 * v ≤ m ∧ x1 * u ≤ m ∧ x1 * v ≤ m) : x * y ≤ m := by
  have := box_lo (x0 := -x1) (x1 := -x0) (x := -x) (u := u) (v := v) (y := y) (m := -m) (by grind) hy (by grind)
  grind
theorem qbox_lo {x0 x1 u v x y m : Rat} (hx : x0 ≤ x ∧ x ≤ x1) (hy : u ≤ y ∧ y ≤ v) (hs : 0 < u ∨ v < 0) (h : m ≤ x0 / u ∧ m ≤ x0 / v ∧ m ≤ x1 / u ∧ m ≤ x1 / v) : m ≤ x / y := by
  have hu : u ≠ 0 := by grind
  have hv : v ≠ 0 := by grind
  have hy0 : y ≠ 0 := by grind
  refine between_quo (u := u) (v := v) (Rat.div_mul_cancel hy0) (Rat.div_mul_cancel hu) (Rat.div_mul_cancel hv) hy.1 hy.2 hs ?_ ?_
  · rw [Rat.div_def]
    exact corner hx.1 hx.2 (by rw [← Rat.div_def]; exact h.1) (by rw [← Rat.div_def]; exact h.2.2.1)
  · rw [Rat.div_def]
    exact corner hx.1 hx.2 (by rw [← Rat.div_def]; exact h.2.1) (by rw [← Rat.div_def]; exact h.2.2.2)
theorem qbox_hi {x0 x1 u v x y m : Rat} (hx : x0 ≤ x ∧ x ≤ x1) (hy : u ≤ y ∧ y ≤ v) (hs : 0 < u ∨ v < 0) (h : x0 / u ≤ m ∧ x0 / v ≤ m ∧ x1 / u ≤ m ∧ x1 / v ≤ m) : x / y ≤ m := by
  have e : ∀ a b : Rat, (-a) / b = -(a / b) := fun a b => by rw [Rat.div_def, Rat.div_def]; grind
  have := qbox_lo (x0 := -x1) (x1 := -x0) (x := -x) (u := u) (v := v) (y := y) (m := -m) (by grind) hy hs (by rw [e, e, e, e]; grind)
  rw [e] at this
  grind
theorem sqrtQ_lo {P : Nat} {x : Dy} (hP : 1 ≤ P) (hx : 0 ≤ x.z) : 0 ≤ (sqrtQ P false x).q ∧ (sqrtQ P false x).q * (sqrtQ P false x).q ≤ x.q := by
  have h0 : Dy.q ⟨0, 0⟩ = 0 := zero_q
  unfold sqrtQ
  by_cases h : x.z ≤ 0
  · rw [if_pos h, h0, q_zero.2 (show x.z = 0 by omega)]
    exact ⟨Rat.le_refl, by grind⟩
  · rw [if_neg h]
    have hq : 0 < x.q := q_pos.2 (by omega)
    have hr := (sqrt_rd (P := P) (up := false) hP (show 0 < x.z by omega)).dn rfl
    have hn : 0 ≤ (sqrtD P false x).q := by
      have := hr.2 ⟨0, 0⟩ (by show (0 : Int).natAbs < 2 ^ P; exact Nat.pow_pos (by decide)) (by rw [h0]; exact .inl Rat.le_refl)
      rw [h0] at this
      exact this
    refine ⟨hn, ?_⟩
    rcases hr.1 with hc | hc
    · have e : (sqrtD P false x).q = 0 := by grind
      rw [e]; grind
    · exact hc
theorem sqrtQ_hi {P : Nat} {x : Dy} (hP : 1 ≤ P) (hx : 0 ≤ x.z) : x.q ≤ (sqrtQ P true x).q * (sqrtQ P true x).q := by
  have h0 : Dy.q ⟨0, 0⟩ = 0 := zero_q
  unfold sqrtQ
  by_cases h : x.z ≤ 0
  · rw [if_pos h, h0, q_zero.2 (show x.z = 0 by omega)]
    grind
  · rw [if_neg h]
    exact ((sqrt_rd (P := P) (up := true) hP (show 0 < x.z by omega)).upw rfl).1.2
end Go.Proofs.YtgiejjpemhceiaaDoor
