/-
  Dyads, plain: numbers z times 2^e, their values as rational numbers, their sums, products, order.
-/
import Derived.Test.YtcknigodcjjahaaDoorGWhA
namespace Go.Proofs.YtcknigodcjjahaaDoor
set_option linter.unusedSimpArgs false

/-- z times 2^e. -/
structure Dy where
  z : Int
  e : Int
abbrev p2 (e : Int) : Rat := (2 : Rat) ^ e
theorem p2_pos (e : Int) : 0 < p2 e := Rat.zpow_pos (by decide)
theorem p2_add (e f : Int) : p2 (e + f) = p2 e * p2 f := Rat.zpow_add (by decide) e f
theorem p2_nat (n : Nat) : p2 (n : Int) = ((2 ^ n : Int) : Rat) := by
  unfold p2
  rw [Rat.zpow_natCast, Rat.intCast_pow]
  rfl
/-- The value. -/
def Dy.q (x : Dy) : Rat := (x.z : Rat) * p2 x.e
/-- A number moved to a lower exponent. -/
theorem q_down (z e : Int) (n : Nat) : ((z * 2 ^ n : Int) : Rat) * p2 (e - n) = (z : Rat) * p2 e := by
  rw [Rat.intCast_mul, ← p2_nat, Rat.mul_assoc, ← p2_add]
  congr 2
  omega
/-- The normal form: an odd amount, or 0. -/
def nrm (z e : Int) : Dy := if z = 0 then ⟨0, 0⟩ else ⟨sg (decide (z < 0)) (z.natAbs / 2 ^ lowN z.natAbs), e + (lowN z.natAbs : Int)⟩
theorem nrm_zero (e : Int) : nrm 0 e = ⟨0, 0⟩ := rfl
theorem nrm_nz {z : Int} (e : Int) (h : z ≠ 0) : nrm z e = ⟨sg (decide (z < 0)) (z.natAbs / 2 ^ lowN z.natAbs), e + (lowN z.natAbs : Int)⟩ := by unfold nrm; rw [if_neg h]
theorem nrm_split {z : Int} (h : z ≠ 0) : ∃ m : Nat, z.natAbs = 2 ^ lowN z.natAbs * (2 * m + 1) ∧ z.natAbs / 2 ^ lowN z.natAbs = 2 * m + 1 ∧ sg (decide (z < 0)) (z.natAbs / 2 ^ lowN z.natAbs) * 2 ^ lowN z.natAbs = z := by
  obtain ⟨m, hm⟩ := lowN_spec (n := z.natAbs) (by omega)
  have hp : 0 < 2 ^ lowN z.natAbs := Nat.pow_pos (by omega)
  have hd : z.natAbs / 2 ^ lowN z.natAbs = 2 * m + 1 := by
    rw [Nat.div_eq_iff_eq_mul_left hp ⟨_, hm⟩, Nat.mul_comm]
    exact hm
  refine ⟨m, hm, hd, ?_⟩
  rw [hd]
  have e : ((2 ^ lowN z.natAbs * (2 * m + 1) : Nat) : Int) = (2 : Int) ^ lowN z.natAbs * (2 * (m : Int) + 1) := by push_cast; rfl
  generalize (2 : Int) ^ lowN z.natAbs = P at *
  have e2 : (z.natAbs : Int) = P * (2 * (m : Int) + 1) := by rw [← e, ← hm]
  rw [Int.mul_comm]
  by_cases h0 : z < 0
  · rw [decide_eq_true h0, sg_true]
    push_cast
    rw [Int.mul_neg, ← e2]
    omega
  · rw [decide_eq_false h0, sg_false]
    push_cast
    rw [← e2]
    omega
theorem nrm_q (z e : Int) : (nrm z e).q = (z : Rat) * p2 e := by
  by_cases h : z = 0
  · subst h
    unfold Dy.q
    rw [nrm_zero]
    simp
  · obtain ⟨m, h1, h2, h3⟩ := nrm_split h
    have h4 := q_down (sg (decide (z < 0)) (z.natAbs / 2 ^ lowN z.natAbs)) (e + (lowN z.natAbs : Int)) (lowN z.natAbs)
    rw [h3, show e + (lowN z.natAbs : Int) - (lowN z.natAbs : Int) = e by omega] at h4
    unfold Dy.q
    rw [nrm_nz e h]
    exact h4.symm
/-- The normal form. -/
def Can (x : Dy) : Prop := (x.z = 0 ∧ x.e = 0) ∨ x.z % 2 = 1
theorem nrm_can (z e : Int) : Can (nrm z e) := by
  by_cases h : z = 0
  · subst h
    exact .inl ⟨rfl, rfl⟩
  · obtain ⟨m, h1, h2, h3⟩ := nrm_split h
    right
    rw [nrm_nz e h, h2]
    show sg (decide (z < 0)) (2 * m + 1) % 2 = 1
    cases decide (z < 0) <;> simp only [sg_true, sg_false] <;> omega
theorem q_zero {x : Dy} : x.q = 0 ↔ x.z = 0 := by
  unfold Dy.q
  rw [Rat.mul_eq_zero]
  have := p2_pos x.e
  constructor
  · rintro (h | h)
    · simpa using h
    · rw [h] at this
      exact absurd this (by decide)
  · intro h
    left
    rw [h]
    rfl
/-- Two values at one exponent. -/
theorem q_at {x : Dy} {m : Int} (h : m ≤ x.e) : x.q = ((x.z * 2 ^ (x.e - m).toNat : Int) : Rat) * p2 m := by
  have := q_down x.z x.e (x.e - m).toNat
  rw [show x.e - ((x.e - m).toNat : Int) = m by omega] at this
  exact this.symm
theorem rat_lt_iff {a b : Int} {m : Int} : (a : Rat) * p2 m < (b : Rat) * p2 m ↔ a < b := by
  rw [Rat.mul_lt_mul_right (p2_pos m), Rat.intCast_lt_intCast]
theorem rat_le_iff {a b : Int} {m : Int} : (a : Rat) * p2 m ≤ (b : Rat) * p2 m ↔ a ≤ b := by
  rw [← Rat.not_lt, ← Int.not_lt, rat_lt_iff]
theorem rat_eq_iff {a b : Int} {m : Int} : (a : Rat) * p2 m = (b : Rat) * p2 m ↔ a = b := by
  constructor
  · intro h
    have h1 : ¬ a < b := fun hc => by have := rat_lt_iff (m := m).2 hc; rw [h] at this; exact Rat.lt_irrefl this
    have h2 : ¬ b < a := fun hc => by have := rat_lt_iff (m := m).2 hc; rw [h] at this; exact Rat.lt_irrefl this
    omega
  · intro h; rw [h]
/-- A normal form is told by its value. -/
theorem Can.ext {x y : Dy} (hx : Can x) (hy : Can y) (h : x.q = y.q) : x = y := by
  have key : ∀ {x y : Dy}, Can x → Can y → x.q = y.q → x.e ≤ y.e → x = y := fun {x y} hx hy h he => by
    have h1 := h
    rw [q_at (x := x) (m := x.e) (Int.le_refl _), q_at (x := y) he, rat_eq_iff] at h1
    rw [Int.sub_self] at h1
    simp only [Int.toNat_zero, Int.pow_zero, Int.mul_one] at h1
    rcases hx with ⟨hz, he0⟩ | hx
    · have hyz : y.z = 0 := by rw [← q_zero, ← h, q_zero]; exact hz
      rcases hy with ⟨_, he1⟩ | hy
      · cases x; cases y; simp only at *; subst hz he0 hyz he1; rfl
      · omega
    · rcases hy with ⟨hyz, _⟩ | hy
      · rw [hyz, Int.zero_mul] at h1; omega
      · by_cases hc : x.e = y.e
        · cases x; cases y
          simp only at *
          subst hc
          rw [Int.sub_self] at h1
          simp only [Int.toNat_zero, Int.pow_zero, Int.mul_one] at h1
          rw [h1]
        · obtain ⟨k, hk⟩ : ∃ k, (y.e - x.e).toNat = k + 1 := ⟨(y.e - x.e).toNat - 1, by omega⟩
          rw [hk, Int.pow_succ, ← Int.mul_assoc] at h1
          omega
  by_cases hc : x.e ≤ y.e
  · exact key hx hy h hc
  · exact (key hy hx h.symm (by omega)).symm
theorem Can.z0 {x : Dy} (hx : Can x) (h : x.z = 0) : x = ⟨0, 0⟩ := by
  rcases hx with ⟨h1, h2⟩ | h1
  · cases x; simp only at *; rw [h1, h2]
  · omega

/-! ### Sums, products, order -/
def dAdd (x y : Dy) : Dy := if x.z = 0 then nrm y.z y.e else if y.z = 0 then nrm x.z x.e else nrm (x.z * 2 ^ (x.e - min x.e y.e).toNat + y.z * 2 ^ (y.e - min x.e y.e).toNat) (min x.e y.e)
def dNot (x : Dy) : Dy := nrm (-x.z) x.e
def dSub (x y : Dy) : Dy := dAdd x (dNot y)
def dMul (x y : Dy) : Dy := nrm (x.z * y.z) (x.e + y.e)
theorem dNot_q (x : Dy) : (dNot x).q = -x.q := by
  unfold dNot
  rw [nrm_q]
  unfold Dy.q
  rw [Rat.intCast_neg]
  grind
theorem dAdd_q (x y : Dy) : (dAdd x y).q = x.q + y.q := by
  unfold dAdd
  by_cases h1 : x.z = 0
  · rw [if_pos h1, nrm_q, q_zero.2 h1]
    unfold Dy.q
    grind
  · rw [if_neg h1]
    by_cases h2 : y.z = 0
    · rw [if_pos h2, nrm_q, q_zero.2 h2]
      unfold Dy.q
      grind
    · rw [if_neg h2, nrm_q, q_at (x := x) (Int.min_le_left x.e y.e), q_at (x := y) (Int.min_le_right x.e y.e), Rat.intCast_add]
      grind
theorem dSub_q (x y : Dy) : (dSub x y).q = x.q - y.q := by
  unfold dSub
  rw [dAdd_q, dNot_q]
  grind
theorem dMul_q (x y : Dy) : (dMul x y).q = x.q * y.q := by
  unfold dMul
  rw [nrm_q, p2_add, Rat.intCast_mul]
  unfold Dy.q
  grind
theorem dAdd_can (x y : Dy) : Can (dAdd x y) := by
  unfold dAdd
  split
  · exact nrm_can _ _
  · split <;> exact nrm_can _ _
theorem dNot_can (x : Dy) : Can (dNot x) := nrm_can _ _
theorem dSub_can (x y : Dy) : Can (dSub x y) := dAdd_can _ _
theorem dMul_can (x y : Dy) : Can (dMul x y) := nrm_can _ _
/-- The order of values. -/
def cmpQ (a b : Rat) : Int := if a < b then -1 else if a = b then 0 else 1
theorem cmpQ_lt {a b : Rat} (h : a < b) : cmpQ a b = -1 := by unfold cmpQ; rw [if_pos h]
theorem cmpQ_eq {a b : Rat} (h : a = b) : cmpQ a b = 0 := by unfold cmpQ; subst h; rw [if_neg Rat.lt_irrefl, if_pos rfl]
theorem cmpQ_gt {a b : Rat} (h : b < a) : cmpQ a b = 1 := by
  unfold cmpQ
  rw [if_neg (by grind), if_neg (by grind)]
theorem cmpQ_at (a b m : Int) : cmpQ ((a : Rat) * p2 m) ((b : Rat) * p2 m) = cmpI a b := by
  unfold cmpQ cmpI
  simp only [rat_lt_iff, rat_eq_iff]
theorem rat_tri (a b : Rat) : a < b ∨ a = b ∨ b < a := by grind
theorem q_sign (x : Dy) : cmpQ x.q 0 = x.z.sign := by
  have h := cmpQ_at x.z 0 x.e
  rw [show ((0 : Int) : Rat) * p2 x.e = 0 by simp] at h
  unfold Dy.q
  rw [h, cmpI_sub, Int.sub_zero]
/-- How great. -/
def topD (x : Dy) : Int := if x.z = 0 then 0 else (bitsN x.z.natAbs : Int) + x.e
end Go.Proofs.YtcknigodcjjahaaDoor
