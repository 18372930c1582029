/-
  Whole numbers, plain: signs, order, quotients rounded down and up.
-/
import Derived.Test.YtphjcphcgnjogaaDoorVal
namespace Go.Proofs.YtphjcphcgnjogaaDoor
set_option linter.unusedSimpArgs false
set_option linter.unusedVariables false

/-- A sign and an amount. -/
def sg (s : Bool) (n : Nat) : Int := if s then -(n : Int) else (n : Int)
theorem sg_true (n : Nat) : sg true n = -(n : Int) := rfl
theorem sg_false (n : Nat) : sg false n = (n : Int) := rfl
theorem sg_abs (s : Bool) (n : Nat) : (sg s n).natAbs = n := by cases s <;> simp [sg]
theorem sg_self (z : Int) : sg (decide (z < 0)) z.natAbs = z := by
  by_cases h : z < 0
  · rw [decide_eq_true h, sg_true]; omega
  · rw [decide_eq_false h, sg_false]; omega
theorem sg_not (s : Bool) (n : Nat) : sg (!s) n = -(sg s n) := by cases s <;> simp [sg]
theorem sg_zero (s : Bool) : sg s 0 = 0 := by cases s <;> rfl
theorem sg_add (s : Bool) (n m : Nat) : sg s (n + m) = sg s n + sg s m := by
  cases s <;> simp only [sg_true, sg_false, Int.natCast_add] <;> omega
theorem sg_sub (s : Bool) (n m : Nat) (h : m ≤ n) : sg s (n - m) = sg s n + sg (!s) m := by
  cases s <;> simp only [sg_true, sg_false, Bool.not_true, Bool.not_false] <;> omega
theorem sg_mul (s t : Bool) (n m : Nat) : sg (s != t) (n * m) = sg s n * sg t m := by
  cases s <;> cases t <;> simp [sg, Int.neg_mul, Int.mul_neg, Int.natCast_mul]
/-- How two whole numbers compare. -/
def cmpI (x y : Int) : Int := if x < y then -1 else if x = y then 0 else 1
theorem cmpI_sub (x y : Int) : cmpI x y = (x - y).sign := by
  unfold cmpI
  by_cases h : x < y
  · rw [if_pos h, Int.sign_eq_neg_one_of_neg (by omega)]
  · rw [if_neg h]
    by_cases h2 : x = y
    · rw [if_pos h2, h2, Int.sub_self]; rfl
    · rw [if_neg h2, Int.sign_eq_one_of_pos (by omega)]
theorem cmpI_swap (x y : Int) : cmpI x y = -cmpI y x := by
  unfold cmpI
  by_cases h : x < y
  · rw [if_pos h, if_neg (by omega), if_neg (by omega)]
  · by_cases h2 : x = y
    · subst h2; simp
    · rw [if_neg h, if_neg h2, if_pos (by omega)]; rfl
theorem sign_of (z : Int) : (z.sign = -1 ∧ z < 0) ∨ (z.sign = 0 ∧ z = 0) ∨ (z.sign = 1 ∧ 0 < z) := by
  rcases Int.lt_trichotomy z 0 with h | h | h
  · exact .inl ⟨Int.sign_eq_neg_one_of_neg h, h⟩
  · exact .inr (.inl ⟨by rw [h]; rfl, h⟩)
  · exact .inr (.inr ⟨Int.sign_eq_one_of_pos h, h⟩)
theorem cmpI_lt {x y : Int} (h : x < y) : cmpI x y = -1 := by unfold cmpI; rw [if_pos h]
theorem cmpI_gt {x y : Int} (h : y < x) : cmpI x y = 1 := by unfold cmpI; rw [if_neg (by omega), if_neg (by omega)]
theorem cmpI_eq {x y : Int} (h : x = y) : cmpI x y = 0 := by unfold cmpI; rw [if_neg (by omega), if_pos h]
theorem cmpI_same {x y : Int} (h : x.sign = y.sign) : x.sign * cmpZ x.natAbs y.natAbs = cmpI x y := by
  unfold cmpZ cmpI
  rcases sign_of x with ⟨h1, h2⟩ | ⟨h1, h2⟩ | ⟨h1, h2⟩ <;> rcases sign_of y with ⟨h3, h4⟩ | ⟨h3, h4⟩ | ⟨h3, h4⟩ <;> rw [h1] at h <;> (try rw [h3] at h) <;> (try omega)
  · rw [h1]
    by_cases a : x < y
    · rw [if_pos a, if_neg (by omega), if_neg (by omega)]; rfl
    · by_cases b : x = y
      · rw [if_neg a, if_pos b, if_neg (by omega), if_pos (by omega)]; rfl
      · rw [if_neg a, if_neg b, if_pos (by omega)]; rfl
  · subst h2 h4; rfl
  · rw [h1]
    by_cases a : x < y
    · rw [if_pos a, if_pos (by omega)]; rfl
    · by_cases b : x = y
      · rw [if_neg a, if_pos b, if_neg (by omega), if_pos (by omega)]; rfl
      · rw [if_neg a, if_neg b, if_neg (by omega), if_neg (by omega)]; rfl
/-- A quotient, rounded down or up. -/
def floorI (x y : Int) : Int := if 0 < y then x / y else (-x) / (-y)
def quoI (up : Bool) (x y : Int) : Int := if up then -(floorI (-x) y) else floorI x y
theorem div_is {x y d : Int} (hy : 0 < y) (h1 : d * y ≤ x) (h2 : x < d * y + y) : x / y = d := by
  apply Int.le_antisymm
  · exact Int.le_of_lt_add_one (Int.ediv_lt_of_lt_mul hy (by rw [Int.add_mul]; omega))
  · exact (Int.le_ediv_iff_mul_le hy).2 h1
theorem floorI_is {x y d : Int} (hy : y ≠ 0) (h : (0 < y ∧ d * y ≤ x ∧ x < d * y + y) ∨ (y < 0 ∧ x ≤ d * y ∧ d * y + y < x)) : floorI x y = d := by
  unfold floorI
  rcases h with ⟨h0, h1, h2⟩ | ⟨h0, h1, h2⟩
  · rw [if_pos h0]; exact div_is h0 h1 h2
  · rw [if_neg (by omega)]
    refine div_is (by omega) ?_ ?_ <;> rw [Int.mul_neg] <;> omega
theorem quo_sg (up s t : Bool) (n m : Nat) (hm : m ≠ 0) : sg (s != t) (n / m + if 0 < n % m ∧ up ≠ (s != t) then 1 else 0) = quoI up (sg s n) (sg t m) := by
  have h1 := Nat.div_add_mod n m
  have h2 := Nat.mod_lt n (Nat.pos_of_ne_zero hm)
  rw [Nat.mul_comm] at h1
  generalize n / m = q at *
  generalize n % m = r at *
  have e : ((q * m : Nat) : Int) = (q : Int) * (m : Int) := by push_cast; rfl
  have hn : (n : Int) = (q : Int) * (m : Int) + (r : Int) := by rw [← e]; omega
  clear e h1
  subst_vars
  cases s <;> cases t <;> cases up <;> by_cases hr : 0 < r <;> simp only [sg_true, sg_false, quoI, hn, hr, ne_eq, Bool.false_eq_true, Bool.true_eq_false, not_true, not_false_eq_true, and_true, and_false, if_true, if_false, reduceIte, bne_self_eq_false, Bool.bne_false, Bool.bne_true, Bool.not_true, Bool.not_false, reduceCtorEq, Nat.add_zero, Int.natCast_add, Int.natCast_one, Int.neg_neg] <;> first | (symm; refine floorI_is (by omega) ?_) | (symm; rw [Int.neg_inj]; refine floorI_is (by omega) ?_) | (symm; rw [Int.neg_eq_comm]; symm; refine floorI_is (by omega) ?_) | skip
  all_goals (try simp only [Int.natCast_add, Int.natCast_one, Int.add_mul, Int.neg_mul, Int.mul_neg, Int.one_mul, Int.neg_neg])
  all_goals (try omega)
theorem floorI_neg (x y : Int) (h : y ≠ 0) : floorI (-x) (-y) = floorI x y := by
  unfold floorI
  by_cases h0 : 0 < y
  · rw [if_pos h0, if_neg (by omega), Int.neg_neg, Int.neg_neg]
  · rw [if_neg h0, if_pos (by omega)]
theorem quoI_neg (up : Bool) (x y : Int) (h : y ≠ 0) : quoI up (-x) (-y) = quoI up x y := by
  unfold quoI
  cases up
  · exact floorI_neg x y h
  · show -floorI (- -x) (-y) = -floorI (-x) y
    rw [floorI_neg (-x) y h]
theorem quo_pos {x y : Int} (hy : 0 < y) : 0 ≤ x - quoI false x y * y ∧ x - quoI false x y * y < y ∧ 0 ≤ quoI true x y * y - x ∧ quoI true x y * y - x < y := by
  have f : ∀ z : Int, 0 ≤ z - floorI z y * y ∧ z - floorI z y * y < y := fun z => by
    unfold floorI
    rw [if_pos hy]
    have h1 := Int.mul_ediv_add_emod z y
    have h2 := Int.emod_nonneg z (show y ≠ 0 by omega)
    have h3 := Int.emod_lt_of_pos z hy
    rw [Int.mul_comm] at h1
    omega
  have h1 := f x
  have h2 := f (-x)
  show 0 ≤ x - floorI x y * y ∧ x - floorI x y * y < y ∧ 0 ≤ -floorI (-x) y * y - x ∧ -floorI (-x) y * y - x < y
  rw [Int.neg_mul]
  omega
theorem near_pos {x y d u : Int} (hy : 0 < y) (h : 0 ≤ x - d * y ∧ x - d * y < y ∧ 0 ≤ u * y - x ∧ u * y - x < y) : 0 ≤ u - d ∧ u - d ≤ 1 ∧ (x - d * y = 0 ↔ u - d = 0) := by
  have e : (u - d) * y = u * y - d * y := Int.sub_mul _ _ _
  generalize u - d = k at *
  have h1 : 0 ≤ k := by
    apply Decidable.byContradiction
    intro hc
    have := Int.mul_le_mul_of_nonneg_right (show k ≤ -1 by omega) (show 0 ≤ y by omega)
    omega
  have h2 : k ≤ 1 := by
    apply Decidable.byContradiction
    intro hc
    have := Int.mul_le_mul_of_nonneg_right (show 2 ≤ k by omega) (show 0 ≤ y by omega)
    omega
  refine ⟨h1, h2, fun h3 => ?_, fun h3 => ?_⟩
  · have : k ≠ 1 := by
      rintro rfl
      omega
    omega
  · subst h3
    omega
theorem sq_lt {a b : Int} (h0 : 0 ≤ a) (h : a < b) : a * a < b * b :=
  Int.lt_of_le_of_lt (Int.mul_le_mul_of_nonneg_left (show a ≤ b by omega) h0) (Int.mul_lt_mul_of_pos_right h (by omega))
theorem quo_law (x y : Int) (hy : y ≠ 0) : 0 ≤ (x - quoI false x y * y).sign * y.sign ∧ (x - quoI false x y * y) * (x - quoI false x y * y) < y * y ∧ (x - quoI false x y * y = 0 ↔ quoI true x y - quoI false x y = 0) ∧ quoI true x y - quoI false x y ≤ 1 ∧ 0 ≤ quoI true x y - quoI false x y := by
  by_cases h0 : 0 < y
  · have h := quo_pos (x := x) h0
    have n := near_pos h0 h
    refine ⟨?_, ?_, n.2.2, n.2.1, n.1⟩
    · exact Int.mul_nonneg (Int.sign_nonneg_iff.2 h.1) (Int.sign_nonneg_iff.2 (by omega))
    · exact sq_lt h.1 h.2.1
  · rw [← quoI_neg false x y hy, ← quoI_neg true x y hy]
    have h := quo_pos (x := -x) (y := -y) (by omega)
    have n := near_pos (by omega) h
    generalize quoI false (-x) (-y) = d at *
    generalize quoI true (-x) (-y) = u at *
    rw [Int.mul_neg] at h n
    refine ⟨?_, ?_, ⟨fun h1 => n.2.2.1 (by omega), fun h1 => by have := n.2.2.2 h1; omega⟩, n.2.1, n.1⟩
    · have h1 : (x - d * y).sign ≤ 0 := by
        rcases Int.lt_trichotomy (x - d * y) 0 with h5 | h5 | h5
        · rw [Int.sign_eq_neg_one_of_neg h5]; omega
        · rw [h5]; simp
        · omega
      have h2 : y.sign ≤ 0 := by rw [Int.sign_eq_neg_one_of_neg (by omega)]; omega
      exact Int.mul_nonneg_of_nonpos_of_nonpos h1 h2
    · have := sq_lt (a := -(x - d * y)) (b := -y) (by omega) (by omega)
      rwa [Int.neg_mul_neg, Int.neg_mul_neg] at this
end Go.Proofs.YtphjcphcgnjogaaDoor
