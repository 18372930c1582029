/-
  Division limb by limb, and Newton's root: the plain law.
-/
import Derived.Test.YtphjcphcgnjogaaDoorValB
namespace Go.Proofs.YtphjcphcgnjogaaDoor

/-- One digit of a long division by two half limbs: where the loop that lowers the guess stands. -/
structure Dig (H u y1 y0 d q r : Nat) : Prop where
  eq : q * y1 + r = u
  ge : (u * H + d) / (y1 * H + y0) ≤ q
  le : q ≤ H + 1
theorem dig_start {H u y1 y0 d : Nat} (h1 : 0 < y1) (hu : u < y1 * H + y0) (h0 : y0 < 2 * y1) (hd : d < H) : Dig H u y1 y0 d (u / y1) (u - (u / y1) * y1) := by
  have e := Nat.div_add_mod u y1
  have hm := Nat.mod_lt u h1
  rw [Nat.mul_comm] at e
  refine ⟨by omega, ?_, ?_⟩
  · apply Nat.le_of_lt_succ
    rw [Nat.div_lt_iff_lt_mul (by
      have : 0 < y1 * H := Nat.mul_pos h1 (by omega)
      omega)]
    have h2 : u + 1 ≤ (u / y1 + 1) * y1 := by rw [Nat.add_mul, Nat.one_mul]; omega
    have h3 : (u + 1) * H ≤ (u / y1 + 1) * y1 * H := Nat.mul_le_mul_right _ h2
    rw [Nat.add_mul, Nat.one_mul] at h3
    have h4 : (u / y1).succ * (y1 * H + y0) = (u / y1 + 1) * y1 * H + (u / y1 + 1) * y0 := by rw [Nat.succ_eq_add_one, Nat.mul_add, Nat.mul_assoc]
    omega
  · apply Nat.le_of_lt_succ
    rw [Nat.div_lt_iff_lt_mul h1]
    have : (H + 1).succ * y1 = y1 * H + 2 * y1 := by rw [Nat.succ_eq_add_one, Nat.add_mul, Nat.add_mul, Nat.mul_comm H]; omega
    omega
theorem dig_lower {H u y1 y0 d q r : Nat} (h : Dig H u y1 y0 d q r) (hy : 0 < y1 * H + y0) (hl : H ≤ q ∨ H * r + d < q * y0) (hu : u < y1 * H + y0) (hd : d < H) : 0 < q ∧ Dig H u y1 y0 d (q - 1) (r + y1) := by
  have hH : 0 < H := by omega
  have hq : 0 < q := by
    rcases hl with hl | hl
    · omega
    · rcases Nat.eq_zero_or_pos q with h0 | h0
      · rw [h0] at hl; omega
      · exact h0
  obtain ⟨k, rfl⟩ : ∃ k, q = k + 1 := ⟨q - 1, by omega⟩
  refine ⟨hq, ?_, ?_, by have := h.le; omega⟩
  · have := h.eq
    rw [Nat.add_mul, Nat.one_mul] at this
    simp only [Nat.add_sub_cancel]
    omega
  · apply Nat.le_of_lt_succ
    rw [Nat.div_lt_iff_lt_mul hy]
    simp only [Nat.add_sub_cancel, Nat.succ_eq_add_one]
    rcases hl with hl | hl
    · have h3 : H * (y1 * H + y0) ≤ (k + 1) * (y1 * H + y0) := Nat.mul_le_mul_right _ hl
      have h4 : (u + 1) * H ≤ (y1 * H + y0) * H := Nat.mul_le_mul_right _ hu
      rw [Nat.add_mul, Nat.one_mul, Nat.mul_comm (y1 * H + y0)] at h4
      omega
    · have h5 : (k + 1) * (y1 * H + y0) = (k + 1) * y1 * H + (k + 1) * y0 := by rw [Nat.mul_add, Nat.mul_assoc]
      have h6 := congrArg (· * H) h.eq
      simp only [Nat.add_mul _ _ H] at h6
      rw [Nat.mul_comm r H] at h6
      omega
theorem dig_done {H u y1 y0 d q r : Nat} (h : Dig H u y1 y0 d q r) (hy : 0 < y1 * H + y0) (hl : q * y0 ≤ H * r + d) : q = (u * H + d) / (y1 * H + y0) := by
  apply Nat.le_antisymm _ h.ge
  rw [Nat.le_div_iff_mul_le hy]
  have h5 : q * (y1 * H + y0) = q * y1 * H + q * y0 := by rw [Nat.mul_add, Nat.mul_assoc]
  have h6 := congrArg (· * H) h.eq
  simp only [Nat.add_mul _ _ H] at h6
  rw [Nat.mul_comm r H] at h6
  omega
theorem dig_break {H y0 d q r : Nat} (hq : q ≤ H) (h0 : y0 < H) (hr : H ≤ r) : q * y0 ≤ H * r + d := by
  have h1 : q * y0 ≤ H * y0 := Nat.mul_le_mul_right _ hq
  have h2 : H * y0 ≤ H * r := Nat.mul_le_mul_left _ (by omega)
  omega

/-- A guess of a digit that is not too small: of T by V3, the uppermost limbs. -/
def EstOk (u2 u1 u0 v1 v0 d : Nat) : Prop := d < BB ∧ (d = BB - 1 ∨ (u2 * BB + u1) * BB + u0 < (d + 1) * (v1 * BB + v0))
theorem est_start {u2 u1 u0 v1 v0 : Nat} (hv : 0 < v1) (h2 : u2 < v1) (h1 : u1 < BB) (h0 : u0 < BB) : EstOk u2 u1 u0 v1 v0 ((u2 * BB + u1) / v1) := by
  have hb := BB_pos
  constructor
  · rw [Nat.div_lt_iff_lt_mul hv]
    have : (u2 + 1) * BB ≤ v1 * BB := Nat.mul_le_mul_right _ h2
    rw [Nat.add_mul, Nat.one_mul, Nat.mul_comm v1] at this
    omega
  · right
    have h3 := Nat.lt_div_mul_add (a := u2 * BB + u1) hv
    have h4 : u2 * BB + u1 + 1 ≤ ((u2 * BB + u1) / v1 + 1) * v1 := by rw [Nat.add_mul, Nat.one_mul]; omega
    have h5 : (u2 * BB + u1 + 1) * BB ≤ ((u2 * BB + u1) / v1 + 1) * v1 * BB := Nat.mul_le_mul_right _ h4
    rw [Nat.add_mul (u2 * BB + u1), Nat.one_mul] at h5
    have h6 : ((u2 * BB + u1) / v1 + 1) * (v1 * BB + v0) = ((u2 * BB + u1) / v1 + 1) * v1 * BB + ((u2 * BB + u1) / v1 + 1) * v0 := by rw [Nat.mul_add, Nat.mul_assoc]
    omega
theorem est_lower {u2 u1 u0 v1 v0 d r : Nat} (hd : d < BB) (he : d * v1 + r = u2 * BB + u1) (hl : r * BB + u0 < d * v0) : 0 < d ∧ EstOk u2 u1 u0 v1 v0 (d - 1) ∧ (d - 1) * v1 + (r + v1) = u2 * BB + u1 := by
  have hp : 0 < d := by
    rcases Nat.eq_zero_or_pos d with h0 | h0
    · rw [h0] at hl; omega
    · exact h0
  obtain ⟨k, rfl⟩ : ∃ k, d = k + 1 := ⟨d - 1, by omega⟩
  simp only [Nat.add_sub_cancel]
  refine ⟨hp, ⟨by omega, .inr ?_⟩, by rw [Nat.add_mul, Nat.one_mul] at he; omega⟩
  have h6 := congrArg (· * BB) he
  simp only [Nat.add_mul _ _ BB] at h6
  have h7 : (k + 1) * (v1 * BB + v0) = (k + 1) * v1 * BB + (k + 1) * v0 := by rw [Nat.mul_add, Nat.mul_assoc]
  rw [Nat.add_mul _ _ BB]
  omega

theorem val_cap {us : List Nat} {m : Nat} (hm : m ≤ us.length) (h : val us < BB ^ m) : val us = val (us.take m) := by
  have h1 := val_take_drop us m hm
  have h2 : val (us.drop m) = 0 := by
    rcases Nat.eq_zero_or_pos (val (us.drop m)) with h2 | h2
    · exact h2
    · have h3 : BB ^ m * 1 ≤ BB ^ m * val (us.drop m) := Nat.mul_le_mul_left _ h2
      omega
  rw [h1, h2]
  omega
/-- The guess off the uppermost limbs is not below the digit. -/
theorem est_ge {us vs : List Nat} {j n d : Nat} (hu : Limb us) (hvl : Limb vs) (hn : 2 ≤ n) (hv : vs.length = n) (hl : j + n < us.length) (hw : val us < BB ^ (j + 1) * val vs)
    (h : EstOk (us[j + n]?.getD 0) (us[j + n - 1]?.getD 0) (us[j + n - 2]?.getD 0) (vs[n - 1]?.getD 0) (vs[n - 2]?.getD 0) d) : val us < BB ^ j * ((d + 1) * val vs) := by
  rcases h.2 with h | h
  · rw [h, show BB - 1 + 1 = BB by have := BB_pos; omega, ← Nat.mul_assoc, ← Nat.pow_succ]
    exact hw
  · obtain ⟨m, rfl⟩ : ∃ m, n = m + 2 := ⟨n - 2, by omega⟩
    rw [show j + (m + 2) - 1 = j + m + 1 by omega, show j + (m + 2) - 2 = j + m by omega, show m + 2 - 1 = m + 1 by omega, show m + 2 - 2 = m by omega, show j + (m + 2) = j + m + 2 by omega] at h
    rw [show j + (m + 2) = j + m + 2 by omega] at hl
    have hvb := val_lt hvl
    rw [hv] at hvb
    have hcap : val us < BB ^ (j + m + 2 + 1) := by
      have h4 := Nat.mul_le_mul_left (BB ^ (j + 1)) (Nat.le_of_lt hvb)
      rw [← Nat.pow_add, show j + 1 + (m + 2) = j + m + 2 + 1 by omega] at h4
      omega
    have c1 := val_take_succ us (j + m) (by omega)
    have c2 : val (us.take (j + m + 2)) = val (us.take (j + m + 1)) + BB ^ (j + m + 1) * (us[j + m + 1]?.getD 0) := val_take_succ us (j + m + 1) (by omega)
    have c3 := val_take_succ us (j + m + 2) (by omega)
    have c0 := val_lt (hu.take (j + m))
    rw [List.length_take, Nat.min_eq_left (by omega)] at c0
    have hua := val_cap (by omega) hcap
    have cV0 := val_take_succ vs m (by omega)
    have cV1 := val_take_succ vs (m + 1) (by omega)
    have hva : val (vs.take (m + 1 + 1)) = val vs := by rw [show m + 1 + 1 = vs.length by omega, List.take_length]
    rw [hva] at cV1
    generalize us[j + m + 2]?.getD 0 = u2 at *
    generalize us[j + m + 1]?.getD 0 = u1 at *
    generalize us[j + m]?.getD 0 = u0 at *
    generalize vs[m + 1]?.getD 0 = v1 at *
    generalize vs[m]?.getD 0 = v0 at *
    -- U < BB^(j+m) (T + 1)
    have e1 : BB ^ (j + m + 1) = BB ^ (j + m) * BB := Nat.pow_succ ..
    have e2 : BB ^ (j + m + 2) = BB ^ (j + m) * (BB * BB) := by rw [Nat.pow_succ, Nat.pow_succ, Nat.mul_assoc]
    have hU : val us < BB ^ (j + m) * ((u2 * BB + u1) * BB + u0 + 1) := by
      have : BB ^ (j + m) * ((u2 * BB + u1) * BB + u0 + 1) = BB ^ (j + m) * (BB * BB) * u2 + BB ^ (j + m) * BB * u1 + BB ^ (j + m) * u0 + BB ^ (j + m) := by
        simp only [Nat.mul_add, Nat.add_mul, Nat.mul_one]
        simp only [Nat.mul_assoc, Nat.mul_comm u2, Nat.mul_comm u1]
      rw [this, ← e1, ← e2]
      omega
    have hV : BB ^ m * (v1 * BB + v0) ≤ val vs := by
      have : BB ^ m * (v1 * BB + v0) = BB ^ (m + 1) * v1 + BB ^ m * v0 := by
        rw [Nat.mul_add, Nat.pow_succ, Nat.mul_assoc, Nat.mul_comm BB v1]
      omega
    have h1 : BB ^ (j + m) * ((u2 * BB + u1) * BB + u0 + 1) ≤ BB ^ (j + m) * ((d + 1) * (v1 * BB + v0)) := Nat.mul_le_mul_left _ h
    have h2 : BB ^ (j + m) * ((d + 1) * (v1 * BB + v0)) = BB ^ j * ((d + 1) * (BB ^ m * (v1 * BB + v0))) := by
      rw [Nat.pow_add, Nat.mul_assoc, Nat.mul_left_comm (d + 1)]
    have h3 : BB ^ j * ((d + 1) * (BB ^ m * (v1 * BB + v0))) ≤ BB ^ j * ((d + 1) * val vs) := Nat.mul_le_mul_left _ (Nat.mul_le_mul_left _ hV)
    omega

/-- Newton's steps down to the root. -/
theorem newton_ge {a r s : Nat} (hr : 0 < r) (hs : s * s ≤ a) : 2 * s ≤ r + a / r := by
  by_cases h : 2 * s ≤ r
  · exact Nat.le_trans h (Nat.le_add_right _ _)
  · have h1 : 2 * s - r ≤ a / r := by
      rw [Nat.le_div_iff_mul_le hr]
      refine Nat.le_trans ?_ hs
      have h2 : 0 ≤ ((s : Int) - r) * ((s : Int) - r) := by
        rcases Int.le_total 0 ((s : Int) - r) with h3 | h3
        · exact Int.mul_nonneg h3 h3
        · have : 0 ≤ (-((s : Int) - r)) * (-((s : Int) - r)) := Int.mul_nonneg (by omega) (by omega)
          rwa [Int.neg_mul_neg] at this
      have h4 : ((s : Int) - r) * ((s : Int) - r) = (s : Int) * s - 2 * ((s : Int) * r) + (r : Int) * r := by
        simp only [Int.sub_mul, Int.mul_sub, Int.mul_comm (r : Int) (s : Int)]
        omega
      have h5 : ((2 * s - r) * r : Nat) + r * r = 2 * (s * r) := by
        rw [← Nat.add_mul, show 2 * s - r + r = 2 * s by omega, Nat.mul_assoc]
      have h6 : ((s * s : Nat) : Int) = (s : Int) * s := by simp
      have h7 : ((s * r : Nat) : Int) = (s : Int) * r := by simp
      have h8 : ((r * r : Nat) : Int) = (r : Int) * r := by simp
      omega
    omega
/-- s is the root of a, rounded down. -/
def IsRoot (a s : Nat) : Prop := s * s ≤ a ∧ a < (s + 1) * (s + 1)
theorem isRoot_unique {a s t : Nat} (h : IsRoot a s) (h' : IsRoot a t) : s = t := by
  have h1 : ¬ s < t := fun hlt => by
    have : (s + 1) * (s + 1) ≤ t * t := Nat.mul_le_mul hlt hlt
    have := h.2; have := h'.1; omega
  have h2 : ¬ t < s := fun hlt => by
    have : (t + 1) * (t + 1) ≤ s * s := Nat.mul_le_mul hlt hlt
    have := h'.2; have := h.1; omega
  omega
theorem newton_done {a r s : Nat} (hr : 0 < r) (hs : IsRoot a s) (hge : s ≤ r) (hq : r ≤ a / r) : r = s := by
  rw [Nat.le_div_iff_mul_le hr] at hq
  have h2 : ¬ s < r := fun hlt => by
    have : (s + 1) * (s + 1) ≤ r * r := Nat.mul_le_mul hlt hlt
    have := hs.2; omega
  omega
theorem newton_step {a r s : Nat} (hr : 0 < r) (hs : IsRoot a s) (_ : s ≤ r) (hq : a / r < r) : s ≤ (r + a / r) / 2 ∧ (r + a / r) / 2 < r := by
  have := newton_ge hr hs.1
  omega
/-- The root of a number, rounded down. -/
def rootN (a : Nat) : Nat := if _h : a = 0 then 0 else if (2 * rootN (a / 4) + 1) * (2 * rootN (a / 4) + 1) ≤ a then 2 * rootN (a / 4) + 1 else 2 * rootN (a / 4)
termination_by a
decreasing_by all_goals omega
theorem rootN_is (a : Nat) : IsRoot a (rootN a) := by
  induction a using Nat.strongRecOn with
  | ind a ih =>
    rw [rootN]
    by_cases h : a = 0
    · rw [dif_pos h, h]
      exact ⟨by omega, by omega⟩
    · rw [dif_neg h]
      have ih := ih (a / 4) (by omega)
      generalize rootN (a / 4) = r at ih
      obtain ⟨h1, h2⟩ := ih
      have e1 : (2 * r + 1) * (2 * r + 1) = 4 * (r * r) + 4 * r + 1 := by
        simp only [Nat.mul_add, Nat.add_mul, Nat.mul_one, Nat.one_mul]
        rw [show 2 * r * (2 * r) = 4 * (r * r) by rw [Nat.mul_mul_mul_comm]]
        omega
      have e2 : (r + 1) * (r + 1) = r * r + 2 * r + 1 := by
        simp only [Nat.mul_add, Nat.add_mul, Nat.mul_one, Nat.one_mul]
        omega
      rw [e2] at h2
      split
      · rename_i h3
        refine ⟨h3, ?_⟩
        have e3 : (2 * r + 1 + 1) * (2 * r + 1 + 1) = 4 * (r * r) + 8 * r + 4 := by
          simp only [Nat.mul_add, Nat.add_mul, Nat.mul_one, Nat.one_mul]
          rw [show 2 * r * (2 * r) = 4 * (r * r) by rw [Nat.mul_mul_mul_comm]]
          omega
        omega
      · rename_i h3
        refine ⟨?_, by omega⟩
        rw [show 2 * r * (2 * r) = 4 * (r * r) by rw [Nat.mul_mul_mul_comm]]
        omega
/-- The first guess is not below the root. -/
theorem root_guess {a h s : Nat} (hs : IsRoot a s) : s ≤ (rootN (a / 2 ^ (2 * h)) + 1) * 2 ^ h := by
  have h1 := (rootN_is (a / 2 ^ (2 * h))).2
  generalize rootN (a / 2 ^ (2 * h)) = r at h1 ⊢
  have hp : 0 < 2 ^ (2 * h) := Nat.pow_pos (by omega)
  rw [Nat.div_lt_iff_lt_mul hp] at h1
  apply Nat.le_of_not_lt
  intro hlt
  have h2 := Nat.mul_le_mul (Nat.le_of_lt hlt) (Nat.le_of_lt hlt)
  have h3 : (r + 1) * 2 ^ h * ((r + 1) * 2 ^ h) = (r + 1) * (r + 1) * 2 ^ (2 * h) := by
    rw [Nat.mul_mul_mul_comm, ← Nat.pow_add]
    congr 2
    omega
  have := hs.1
  omega
end Go.Proofs.YtphjcphcgnjogaaDoor
