/-
  Joined texts.
-/
import Derived.Test.YtigpnopeacicpaaDoorTwGWhA
import Derived.Test.YtigpnopeacicpaaDoorTwGWhB
import Derived.Test.YtigpnopeacicpaaDoorTwGTyp
/-
  Dyads, plain: numbers z times 2^e, their values as rational numbers, their sums, products, order.
-/
namespace Go.Proofs.YtigpnopeacicpaaDoor
set_option linter.unusedSimpArgs false

structure Dy where
  z : Int
  e : Int
abbrev p2 (e : Int) : Rat := (2 : Rat) ^ e
theorem p2_pos (e : Int) : 0 < p2 e := Rat.zpow_pos (by decide)
theorem p2_add (e f : Int) : p2 (e + f) = p2 e * p2 f := Rat.zpow_add (by decide) e f
theorem p2_nat (n : Nat) : p2 (n : Int) = ((2 ^ n : Int) : Rat) := by
  unfold p2
  rw [Rat.zpow_natCast, Rat.intCast_pow]
  rfl
def Dy.q (x : Dy) : Rat := (x.z : Rat) * p2 x.e
theorem q_down (z e : Int) (n : Nat) : ((z * 2 ^ n : Int) : Rat) * p2 (e - n) = (z : Rat) * p2 e := by
  rw [Rat.intCast_mul, ← p2_nat, Rat.mul_assoc, ← p2_add]
  congr 2
  omega
def nrm (z e : Int) : Dy := if z = 0 then ⟨0, 0⟩ else ⟨sg (decide (z < 0)) (z.natAbs / 2 ^ lowN z.natAbs), e + (lowN z.natAbs : Int)⟩
theorem nrm_zero (e : Int) : nrm 0 e = ⟨0, 0⟩ := rfl
theorem nrm_nz {z : Int} (e : Int) (h : z ≠ 0) : nrm z e = ⟨sg (decide (z < 0)) (z.natAbs / 2 ^ lowN z.natAbs), e + (lowN z.natAbs : Int)⟩ := by unfold nrm; rw [if_neg h]
theorem nrm_split {z : Int} (h : z ≠ 0) : ∃ m : Nat, z.natAbs = 2 ^ lowN z.natAbs * (2 * m + 1) ∧ z.natAbs / 2 ^ lowN z.natAbs = 2 * m + 1 ∧ sg (decide (z < 0)) (z.natAbs / 2 ^ lowN z.natAbs) * 2 ^ lowN z.natAbs = z := by
  obtain ⟨m, hm⟩ := lowN_spec (n := z.natAbs) (by omega)
  have hp : 0 < 2 ^ lowN z.natAbs := Nat.pow_pos (by omega)
  have hd : z.natAbs / 2 ^ lowN z.natAbs = 2 * m + 1 := by
    rw [Nat.div_eq_iff_eq_mul_left hp ⟨_, hm⟩, Nat.mul_comm]
    exact hm
  refine ⟨m, hm, hd, ?_⟩
  rw [hd]
  have e : ((2 ^ lowN z.natAbs * (2 * m + 1) : Nat) : Int) = (2 : Int) ^ lowN z.natAbs * (2 * (m : Int) + 1) := by push_cast; rfl
  generalize (2 : Int) ^ lowN z.natAbs = P at *
  have e2 : (z.natAbs : Int) = P * (2 * (m : Int) + 1) := by rw [← e, ← hm]
  rw [Int.mul_comm]
  by_cases h0 : z < 0
  · rw [decide_eq_true h0, sg_true]
    push_cast
    rw [Int.mul_neg, ← e2]
    omega
  · rw [decide_eq_false h0, sg_false]
    push_cast
    rw [← e2]
    omega
theorem nrm_q (z e : Int) : (nrm z e).q = (z : Rat) * p2 e := by
  by_cases h : z = 0
  · subst h
    unfold Dy.q
    rw [nrm_zero]
    simp
  · obtain ⟨m, h1, h2, h3⟩ := nrm_split h
    have h4 := q_down (sg (decide (z < 0)) (z.natAbs / 2 ^ lowN z.natAbs)) (e + (lowN z.natAbs : Int)) (lowN z.natAbs)
    rw [h3, show e + (lowN z.natAbs : Int) - (lowN z.natAbs : Int) = e by omega] at h4
    unfold Dy.q
    rw [nrm_nz e h]
    exact h4.symm
def Can (x : Dy) : Prop := (x.z = 0 ∧ x.e = 0) ∨ x.z % 2 = 1
theorem nrm_can (z e : Int) : Can (nrm z e) := by
  by_cases h : z = 0
  · subst h
    exact .inl ⟨rfl, rfl⟩
  · obtain ⟨m, h1, h2, h3⟩ := nrm_split h
    right
    rw [nrm_nz e h, h2]
    show sg (decide (z < 0)) (2 * m + 1) % 2 = 1
    cases decide (z < 0) <;> simp only [sg_true, sg_false] <;> omega
theorem q_zero {x : Dy} : x.q = 0 ↔ x.z = 0 := by
  unfold Dy.q
  rw [Rat.mul_eq_zero]
  have := p2_pos x.e
  constructor
  · rintro (h | h)
    · simpa using h
    · rw [h] at this
      exact absurd this (by decide)
  · intro h
    left
    rw [h]
    rfl
theorem q_at {x : Dy} {m : Int} (h : m ≤ x.e) : x.q = ((x.z * 2 ^ (x.e - m).toNat : Int) : Rat) * p2 m := by
  have := q_down x.z x.e (x.e - m).toNat
  rw [show x.e - ((x.e - m).toNat : Int) = m by omega] at this
  exact this.symm
theorem rat_lt_iff {a b : Int} {m : Int} : (a : Rat) * p2 m < (b : Rat) * p2 m ↔ a < b := by
  rw [Rat.mul_lt_mul_right (p2_pos m), Rat.intCast_lt_intCast]
theorem rat_le_iff {a b : Int} {m : Int} : (a : Rat) * p2 m ≤ (b : Rat) * p2 m ↔ a ≤ b := by
  rw [← Rat.not_lt, ← Int.not_lt, rat_lt_iff]
theorem rat_eq_iff {a b : Int} {m : Int} : (a : Rat) * p2 m = (b : Rat) * p2 m ↔ a = b := by
  constructor
  · intro h
    have h1 : ¬ a < b := fun hc => by have := rat_lt_iff (m := m).2 hc; rw [h] at this; exact Rat.lt_irrefl this
    have h2 : ¬ b < a := fun hc => by have := rat_lt_iff (m := m).2 hc; rw [h] at this; exact Rat.lt_irrefl this
    omega
  · intro h; rw [h]
theorem Can.ext {x y : Dy} (hx : Can x) (hy : Can y) (h : x.q = y.q) : x = y := by
  have key : ∀ {x y : Dy}, Can x → Can y → x.q = y.q → x.e ≤ y.e → x = y := fun {x y} hx hy h he => by
    have h1 := h
    rw [q_at (x := x) (m := x.e) (Int.le_refl _), q_at (x := y) he, rat_eq_iff] at h1
    rw [Int.sub_self] at h1
    simp only [Int.toNat_zero, Int.pow_zero, Int.mul_one] at h1
    rcases hx with ⟨hz, he0⟩ | hx
    · have hyz : y.z = 0 := by rw [← q_zero, ← h, q_zero]; exact hz
      rcases hy with ⟨_, he1⟩ | hy
      · cases x; cases y; simp only at *; subst hz he0 hyz he1; rfl
      · omega
    · rcases hy with ⟨hyz, _⟩ | hy
      · rw [hyz, Int.zero_mul] at h1; omega
      · by_cases hc : x.e = y.e
        · cases x; cases y
          simp only at *
          subst hc
          rw [Int.sub_self] at h1
          simp only [Int.toNat_zero, Int.pow_zero, Int.mul_one] at h1
          rw [h1]
        · obtain ⟨k, hk⟩ : ∃ k, (y.e - x.e).toNat = k + 1 := ⟨(y.e - x.e).toNat - 1, by omega⟩
          rw [hk, Int.pow_succ, ← Int.mul_assoc] at h1
          omega
  by_cases hc : x.e ≤ y.e
  · exact key hx hy h hc
  · exact (key hy hx h.symm (by omega)).symm
/-! ### Sums, products, order -/
def dAdd (x y : Dy) : Dy := if x.z = 0 then nrm y.z y.e else if y.z = 0 then nrm x.z x.e else nrm (x.z * 2 ^ (x.e - min x.e y.e).toNat + y.z * 2 ^ (y.e - min x.e y.e).toNat) (min x.e y.e)
def dNot (x : Dy) : Dy := nrm (-x.z) x.e
def dSub (x y : Dy) : Dy := dAdd x (dNot y)
def dMul (x y : Dy) : Dy := nrm (x.z * y.z) (x.e + y.e)
theorem dNot_q (x : Dy) : (dNot x).q = -x.q := by
  unfold dNot
  rw [nrm_q]
  unfold Dy.q
  rw [Rat.intCast_neg]
  grind
theorem dAdd_q (x y : Dy) : (dAdd x y).q = x.q + y.q := by
  unfold dAdd
  by_cases h1 : x.z = 0
  · rw [if_pos h1, nrm_q, q_zero.2 h1]
    unfold Dy.q
    grind
  · rw [if_neg h1]
    by_cases h2 : y.z = 0
    · rw [if_pos h2, nrm_q, q_zero.2 h2]
      unfold Dy.q
      grind
    · rw [if_neg h2, nrm_q, q_at (x := x) (Int.min_le_left x.e y.e), q_at (x := y) (Int.min_le_right x.e y.e), Rat.intCast_add]
      grind
theorem dSub_q (x y : Dy) : (dSub x y).q = x.q - y.q := by
  unfold dSub
  rw [dAdd_q, dNot_q]
  grind
theorem dMul_q (x y : Dy) : (dMul x y).q = x.q * y.q := by
  unfold dMul
  rw [nrm_q, p2_add, Rat.intCast_mul]
  unfold Dy.q
  grind
theorem dAdd_can (x y : Dy) : Can (dAdd x y) := by
  unfold dAdd
  split
  · exact nrm_can _ _
  · split <;> exact nrm_can _ _
theorem dNot_can (x : Dy) : Can (dNot x) := nrm_can _ _
theorem dSub_can (x y : Dy) : Can (dSub x y) := dAdd_can _ _
theorem dMul_can (x y : Dy) : Can (dMul x y) := nrm_can _ _
def cmpQ (a b : Rat) : Int := if a < b then -1 else if a = b then 0 else 1
theorem cmpQ_lt {a b : Rat} (h : a < b) : cmpQ a b = -1 := by unfold cmpQ; rw [if_pos h]
theorem cmpQ_eq {a b : Rat} (h : a = b) : cmpQ a b = 0 := by unfold cmpQ; subst h; rw [if_neg Rat.lt_irrefl, if_pos rfl]
theorem cmpQ_gt {a b : Rat} (h : b < a) : cmpQ a b = 1 := by
  unfold cmpQ
  rw [if_neg (by grind), if_neg (by grind)]
theorem cmpQ_at (a b m : Int) : cmpQ ((a : Rat) * p2 m) ((b : Rat) * p2 m) = cmpI a b := by
  unfold cmpQ cmpI
  simp only [rat_lt_iff, rat_eq_iff]
theorem rat_tri (a b : Rat) : a < b ∨ a = b ∨ b < a := by grind
theorem q_sign (x : Dy) : cmpQ x.q 0 = x.z.sign := by
  have h := cmpQ_at x.z 0 x.e
  rw [show ((0 : Int) : Rat) * p2 x.e = 0 by simp] at h
  unfold Dy.q
  rw [h, cmpI_sub, Int.sub_zero]
def topD (x : Dy) : Int := if x.z = 0 then 0 else (bitsN x.z.natAbs : Int) + x.e
end Go.Proofs.YtigpnopeacicpaaDoor
/-
  Dyads, plain: how great they are, bounds.
-/
namespace Go.Proofs.YtigpnopeacicpaaDoor
set_option linter.unusedSimpArgs false

theorem bitsN_spec {n : Nat} (h : n ≠ 0) : ∃ b, bitsN n = b + 1 ∧ 2 ^ b ≤ n ∧ n < 2 ^ (b + 1) := by
  refine ⟨Nat.log2 n, by unfold bitsN; rw [if_neg h], ?_, ?_⟩
  · exact Nat.log2_self_le h
  · exact Nat.lt_log2_self
theorem bitsN_lt (n : Nat) : n < 2 ^ bitsN n := by
  by_cases h : n = 0
  · subst h; decide
  · obtain ⟨b, h1, h2, h3⟩ := bitsN_spec h
    rw [h1]; exact h3
theorem bitsN_le {n k : Nat} (h : n < 2 ^ k) : bitsN n ≤ k := by
  by_cases h0 : n = 0
  · subst h0; exact Nat.zero_le _
  · obtain ⟨b, h1, h2, h3⟩ := bitsN_spec h0
    rw [h1]
    apply Nat.lt_of_not_le
    intro hc
    have := Nat.pow_le_pow_right (n := 2) (by omega) hc
    omega
theorem bitsN_ge {n k : Nat} (h : 2 ^ k ≤ n) : k + 1 ≤ bitsN n := by
  have h1 := bitsN_lt n
  apply Nat.lt_of_not_le
  intro hc
  have := Nat.pow_le_pow_right (n := 2) (by omega) hc
  omega
theorem lowN_lt {n : Nat} (h : n ≠ 0) : lowN n < bitsN n := by
  obtain ⟨m, hm⟩ := lowN_spec h
  have h1 : 2 ^ lowN n ≤ n := by
    have h3 := Nat.mul_le_mul_left (2 ^ lowN n) (show 1 ≤ 2 * m + 1 by omega)
    omega
  exact bitsN_ge h1
theorem lowN_le_bits (n : Nat) : lowN n ≤ bitsN n := by
  by_cases h : n = 0
  · subst h; rw [lowN_zero]; exact Nat.zero_le _
  · exact Nat.le_of_lt (lowN_lt h)
theorem p2_mono {a b : Int} (h : a ≤ b) : p2 a ≤ p2 b := by
  have h1 := rat_le_iff (a := 1) (b := 2 ^ (b - a).toNat) (m := a)
  have h2 := q_down 1 b (b - a).toNat
  rw [show b - ((b - a).toNat : Int) = a by omega, Int.one_mul] at h2
  rw [h2] at h1
  have h3 := h1.2 (by have := Int.pow_pos (n := 2) (m := (b - a).toNat) (by decide); omega)
  simpa using h3
theorem top_spec {x : Dy} (h : x.z ≠ 0) : (0 < x.z → p2 (topD x - 1) ≤ x.q ∧ x.q < p2 (topD x)) ∧ (x.z < 0 → p2 (topD x - 1) ≤ -x.q ∧ -x.q < p2 (topD x)) := by
  obtain ⟨b, h1, h2, h3⟩ := bitsN_spec (n := x.z.natAbs) (by omega)
  have ht : topD x = (b : Int) + 1 + x.e := by unfold topD; rw [if_neg h, h1]; omega
  have e1 : p2 (topD x - 1) = ((2 ^ b : Int) : Rat) * p2 x.e := by
    rw [ht, show (b : Int) + 1 + x.e - 1 = (b : Int) + x.e by omega, p2_add, p2_nat]
  have e2 : p2 (topD x) = ((2 ^ (b + 1) : Int) : Rat) * p2 x.e := by
    rw [ht, show (b : Int) + 1 + x.e = ((b + 1 : Nat) : Int) + x.e by omega, p2_add, p2_nat]
  have c1 : ((2 ^ b : Nat) : Int) = (2 : Int) ^ b := by push_cast; rfl
  have c2 : ((2 ^ (b + 1) : Nat) : Int) = (2 : Int) ^ (b + 1) := by push_cast; rfl
  rw [e1, e2]
  have hn : -x.q = ((-x.z : Int) : Rat) * p2 x.e := by unfold Dy.q; rw [Rat.intCast_neg]; grind
  rw [hn]
  unfold Dy.q
  constructor
  · intro h0
    rw [rat_le_iff, rat_lt_iff, ← c1, ← c2]
    omega
  · intro h0
    rw [rat_le_iff, rat_lt_iff, ← c1, ← c2]
    omega
theorem q_pos {x : Dy} : 0 < x.q ↔ 0 < x.z := by
  have h := rat_lt_iff (a := 0) (b := x.z) (m := x.e)
  rw [show ((0 : Int) : Rat) * p2 x.e = 0 by simp] at h
  exact h
theorem q_neg {x : Dy} : x.q < 0 ↔ x.z < 0 := by
  have h := rat_lt_iff (a := x.z) (b := 0) (m := x.e)
  rw [show ((0 : Int) : Rat) * p2 x.e = 0 by simp] at h
  exact h
theorem cmp_sign_lt {x y : Dy} (h : x.z.sign < y.z.sign) : cmpQ x.q y.q = -1 := by
  apply cmpQ_lt
  have h1 := q_pos (x := x); have h2 := q_pos (x := y); have h3 := q_neg (x := x); have h4 := q_neg (x := y)
  have h5 := q_zero (x := x); have h6 := q_zero (x := y)
  rcases sign_of x.z with ⟨a1, a2⟩ | ⟨a1, a2⟩ | ⟨a1, a2⟩ <;> rcases sign_of y.z with ⟨b1, b2⟩ | ⟨b1, b2⟩ | ⟨b1, b2⟩ <;> first | omega | skip
  · rw [h6.2 b2]; exact h3.2 a2
  · have := h3.2 a2; have := h2.2 b2; grind
  · rw [h5.2 a2]; exact h2.2 b2
theorem cmpQ_swap (a b : Rat) : cmpQ a b = -cmpQ b a := by
  rcases rat_tri a b with h | h | h
  · rw [cmpQ_lt h, cmpQ_gt h]
  · rw [cmpQ_eq h, cmpQ_eq h.symm]; rfl
  · rw [cmpQ_lt h, cmpQ_gt h]; rfl
theorem cmp_sign_gt {x y : Dy} (h : y.z.sign < x.z.sign) : cmpQ x.q y.q = 1 := by
  rw [cmpQ_swap, cmp_sign_lt h]; rfl
theorem cmp_zero {x y : Dy} (hx : x.z = 0) (hy : y.z = 0) : cmpQ x.q y.q = 0 := cmpQ_eq (by rw [q_zero.2 hx, q_zero.2 hy])
theorem cmp_top_lt {x y : Dy} (hs : x.z.sign = y.z.sign) (h0 : x.z ≠ 0) (h : topD x < topD y) : cmpQ x.q y.q = -x.z.sign := by
  have hy0 : y.z ≠ 0 := by
    intro hc
    rw [hc] at hs
    rcases sign_of x.z with ⟨a1, a2⟩ | ⟨a1, a2⟩ | ⟨a1, a2⟩ <;> simp at hs <;> omega
  obtain ⟨x1, x2⟩ := top_spec h0
  obtain ⟨y1, y2⟩ := top_spec hy0
  have hm := p2_mono (show topD x ≤ topD y - 1 by omega)
  rcases sign_of x.z with ⟨a1, a2⟩ | ⟨a1, a2⟩ | ⟨a1, a2⟩ <;> rcases sign_of y.z with ⟨b1, b2⟩ | ⟨b1, b2⟩ | ⟨b1, b2⟩ <;> first | omega | skip
  · rw [a1]
    have := x2 a2; have := y2 b2
    exact cmpQ_gt (by grind)
  · rw [a1]
    have := x1 a2; have := y1 b2
    exact cmpQ_lt (by grind)
theorem cmp_top_gt {x y : Dy} (hs : x.z.sign = y.z.sign) (h0 : y.z ≠ 0) (h : topD y < topD x) : cmpQ x.q y.q = x.z.sign := by
  rw [cmpQ_swap, cmp_top_lt hs.symm h0 h, hs, Int.neg_neg]
def alX (x y : Dy) : Int := x.z * 2 ^ (x.e - min x.e y.e).toNat
def alY (x y : Dy) : Int := y.z * 2 ^ (y.e - min x.e y.e).toNat
theorem dAdd_al {x y : Dy} (hx : x.z ≠ 0) (hy : y.z ≠ 0) : dAdd x y = nrm (alX x y + alY x y) (min x.e y.e) := by
  unfold dAdd alX alY
  rw [if_neg hx, if_neg hy]
theorem dAdd_x0 {x y : Dy} (hx : x.z = 0) : dAdd x y = nrm y.z y.e := by unfold dAdd; rw [if_pos hx]
theorem dAdd_y0 {x y : Dy} (hx : x.z ≠ 0) (hy : y.z = 0) : dAdd x y = nrm x.z x.e := by unfold dAdd; rw [if_neg hx, if_pos hy]

/-! ### Bounds -/
structure Bnd (N : Nat) (x : Dy) : Prop where
  z : x.z.natAbs < 2 ^ N
  lo : -(N : Int) ≤ x.e
  hi : x.e ≤ (N : Int)
theorem two_mono {a b : Nat} (h : a ≤ b) : 2 ^ a ≤ 2 ^ b := Nat.pow_le_pow_right (by omega) h
theorem Bnd.mono {N M : Nat} {x : Dy} (h : Bnd N x) (hn : N ≤ M) : Bnd M x := ⟨Nat.lt_of_lt_of_le h.z (two_mono hn), by have := h.lo; omega, by have := h.hi; omega⟩
theorem bnd_nrm {K M N : Nat} {z e : Int} (hz : z.natAbs < 2 ^ K) (h1 : -(M : Int) ≤ e) (h2 : e ≤ (M : Int)) (hN : K + M ≤ N) : Bnd N (nrm z e) := by
  by_cases h : z = 0
  · subst h
    exact ⟨by rw [nrm_zero]; exact Nat.pow_pos (by omega), by rw [nrm_zero]; show -(N : Int) ≤ 0; omega, by rw [nrm_zero]; show (0 : Int) ≤ N; omega⟩
  · rw [nrm_nz e h]
    have h3 := lowN_lt (n := z.natAbs) (by omega)
    have h4 := bitsN_le hz
    refine ⟨?_, ?_, ?_⟩
    · show (sg _ _).natAbs < _
      rw [sg_abs]
      exact Nat.lt_of_le_of_lt (Nat.div_le_self _ _) (Nat.lt_of_lt_of_le hz (two_mono (by omega)))
    · show _ ≤ e + _
      omega
    · show e + _ ≤ _
      omega
theorem abs_shl_lt {z : Int} {N k : Nat} (h : z.natAbs < 2 ^ N) : (z * 2 ^ k).natAbs < 2 ^ (N + k) := by
  rw [Int.natAbs_mul, Int.natAbs_pow, Nat.pow_add]
  exact Nat.mul_lt_mul_of_pos_right h (Nat.pow_pos (by decide))
theorem abs_add_lt {a b : Int} {N : Nat} (ha : a.natAbs < 2 ^ N) (hb : b.natAbs < 2 ^ N) : (a + b).natAbs < 2 ^ (N + 1) := by rw [Nat.pow_succ]; omega
theorem Bnd.not {N M : Nat} {x : Dy} (h : Bnd N x) (hM : 2 * N ≤ M) : Bnd M (dNot x) := bnd_nrm (by rw [Int.natAbs_neg]; exact h.z) h.lo h.hi (by omega)
theorem Bnd.norm {N M : Nat} {x : Dy} (h : Bnd N x) (hM : 2 * N ≤ M) : Bnd M (nrm x.z x.e) := bnd_nrm h.z h.lo h.hi (by omega)
theorem Bnd.alX {N : Nat} {x y : Dy} (h : Bnd N x) (h' : Bnd N y) : (alX x y).natAbs < 2 ^ (3 * N) := by
  have h1 := abs_shl_lt (k := (x.e - min x.e y.e).toNat) h.z
  have := h.lo; have := h.hi; have := h'.lo; have := h'.hi
  exact Nat.lt_of_lt_of_le h1 (two_mono (by omega))
theorem Bnd.alY {N : Nat} {x y : Dy} (h : Bnd N x) (h' : Bnd N y) : (alY x y).natAbs < 2 ^ (3 * N) := by
  have h1 := abs_shl_lt (k := (y.e - min x.e y.e).toNat) h'.z
  have := h.lo; have := h.hi; have := h'.lo; have := h'.hi
  exact Nat.lt_of_lt_of_le h1 (two_mono (by omega))
theorem Bnd.add {N M : Nat} {x y : Dy} (h : Bnd N x) (h' : Bnd N y) (hM : 4 * N + 1 ≤ M) : Bnd M (dAdd x y) := by
  by_cases hx : x.z = 0
  · rw [dAdd_x0 hx]; exact h'.norm (by omega)
  · by_cases hy : y.z = 0
    · rw [dAdd_y0 hx hy]; exact h.norm (by omega)
    · rw [dAdd_al hx hy]
      have := h.lo; have := h.hi; have := h'.lo; have := h'.hi
      exact bnd_nrm (K := 3 * N + 1) (M := N) (abs_add_lt (h.alX h') (h.alY h')) (by omega) (by omega) (by omega)
theorem bb_two_pow (n : Nat) : BB ^ n = 2 ^ (64 * n) := by rw [BB_pow, ← Nat.pow_mul]
theorem few_two_pow {n N : Nat} (h : n < 2 ^ N) (hN : N ≤ 60000000) : Few n := by
  unfold Few
  rw [bb_two_pow]
  exact Nat.lt_of_lt_of_le h (two_mono (by rw [MX_val]; omega))
end Go.Proofs.YtigpnopeacicpaaDoor
/-
  Dyads, plain: rounding to so many bits.
-/
namespace Go.Proofs.YtigpnopeacicpaaDoor
set_option linter.unusedSimpArgs false

def Short (P : Nat) (s : Dy) : Prop := s.z.natAbs < 2 ^ P
structure Rd (P : Nat) (up : Bool) (le ge : Rat → Prop) (r : Dy) : Prop where
  can : Can r
  short : Short P r
  dn : up = false → le r.q ∧ ∀ s, Short P s → le s.q → s.q ≤ r.q
  upw : up = true → ge r.q ∧ ∀ s, Short P s → ge s.q → r.q ≤ s.q
theorem Rd.congr {P : Nat} {up : Bool} {le ge le' ge' : Rat → Prop} {r : Dy} (h : Rd P up le ge r) (h1 : ∀ s, Short P s → (le s.q ↔ le' s.q)) (h2 : ∀ s, Short P s → (ge s.q ↔ ge' s.q)) : Rd P up le' ge' r :=
  ⟨h.can, h.short, fun hu => ⟨(h1 _ h.short).1 (h.dn hu).1, fun s hs hl => (h.dn hu).2 s hs ((h1 s hs).2 hl)⟩, fun hu => ⟨(h2 _ h.short).1 (h.upw hu).1, fun s hs hl => (h.upw hu).2 s hs ((h2 s hs).2 hl)⟩⟩
theorem rat_le_antisymm {a b : Rat} (h : a ≤ b) (h' : b ≤ a) : a = b := by grind
end Go.Proofs.YtigpnopeacicpaaDoor
/-
  Dyads, plain: quotients and roots, rounded.
-/
namespace Go.Proofs.YtigpnopeacicpaaDoor
set_option linter.unusedSimpArgs false

/-! ### Quotients -/
end Go.Proofs.YtigpnopeacicpaaDoor
/-
  Dyads, plain: roots, rounded; bounds of what is rounded.
-/
namespace Go.Proofs.YtigpnopeacicpaaDoor
set_option linter.unusedSimpArgs false

/-! ### Bounds -/
end Go.Proofs.YtigpnopeacicpaaDoor
/-
  Dyads, plain: what has few enough bits is not rounded.
-/
namespace Go.Proofs.YtigpnopeacicpaaDoor
set_option linter.unusedSimpArgs false

theorem Rd.exact {P : Nat} {up : Bool} {t : Rat} {r s : Dy} (h : Rd P up (· ≤ t) (t ≤ ·) r) (hs : Short P s) (he : s.q = t) : r.q = t := by
  cases up
  · obtain ⟨h1, h2⟩ := h.dn rfl
    have := h2 s hs (by rw [he]; exact Rat.le_refl)
    exact rat_le_antisymm h1 (by rw [← he]; exact this)
  · obtain ⟨h1, h2⟩ := h.upw rfl
    have := h2 s hs (by rw [he]; exact Rat.le_refl)
    exact rat_le_antisymm (by rw [← he]; exact this) h1
end Go.Proofs.YtigpnopeacicpaaDoor

/-
  Dyads: what a struct reads as; shifts.
-/
namespace Go.Proofs.YtigpnopeacicpaaDoor
set_option linter.unusedSimpArgs false
open Go.RowKit

def DV (w : World) (v : Value) (x : Dy) : Prop := ∃ s A k c, v = .agg #[.bool s, .slice A k c, .int .i64 x.e] ∧ IV w (.agg #[.bool s, .slice A k c]) x.z

theorem DV.only {w w' : World} {v : Value} {x : Dy} (h : DV w v x) (ho : Only [] w w') : DV w' v x := by
  obtain ⟨s, A, k, c, h1, h2⟩ := h
  exact ⟨s, A, k, c, h1, h2.only ho⟩

def isD (x : Dy) : VP := fun u w => ∃ s A k c, u = .agg #[.bool s, .slice A k c, .int .i64 x.e] ∧ s = decide (x.z < 0) ∧ k = (limbsOf x.z.natAbs).length ∧ IV w (.agg #[.bool s, .slice A k c]) x.z

theorem isD.lasts (x : Dy) : Lasts (isD x) := fun _ _ _ ⟨s, A, k, c, h1, h2, h3, h4⟩ ho => ⟨s, A, k, c, h1, h2, h3, h4.only ho⟩

theorem isD.dv {w : World} {v : Value} {x : Dy} (h : isD x v w) : DV w v x := by
  obtain ⟨s, A, k, c, h1, _, _, h4⟩ := h
  exact ⟨s, A, k, c, h1, h4⟩

def Cn (s : Bool) (k : Nat) (z : Int) : Prop := s = decide (z < 0) ∧ k = (limbsOf z.natAbs).length

theorem all_isD {x : Dy} {w : World} {K : Value → Prop} (h : ∀ s A k c, Hid (IV w (.agg #[.bool s, .slice A k c]) x.z) → Hid (Cn s k x.z) → K (.agg #[.bool s, .slice A k c, .int .i64 x.e])) : ∀ v, isD x v w → K v := fun v ⟨s, A, k, c, h1, h2, h3, h4⟩ => by
  subst h1
  exact h s A k c h4 ⟨h2, h3⟩

def isWC (z : Int) : VP := fun u w => ∃ s A k c, u = .agg #[.bool s, .slice A k c] ∧ Cn s k z ∧ IV w u z

theorem isWC.lasts (z : Int) : Lasts (isWC z) := fun _ _ _ ⟨s, A, k, c, h1, h2, h4⟩ ho => ⟨s, A, k, c, h1, h2, h4.only ho⟩

theorem all_isWC {z : Int} {w : World} {K : Value → Prop} (h : ∀ s A k c, Hid (IV w (.agg #[.bool s, .slice A k c]) z) → Hid (Cn s k z) → K (.agg #[.bool s, .slice A k c])) : ∀ v, isWC z v w → K v := fun v ⟨s, A, k, c, h1, h2, h4⟩ => by
  subst h1
  exact h s A k c h4 h2

def isNV (n : Nat) : VP := fun u w => ∃ A k c, u = .slice A k c ∧ NV w u n

theorem isNV.lasts (n : Nat) : Lasts (isNV n) := fun _ _ _ ⟨A, k, c, h1, h3⟩ ho => ⟨A, k, c, h1, h3.only ho⟩

def isDV (x : Dy) : VP := fun u w => DV w u x

theorem isDV.lasts (x : Dy) : Lasts (isDV x) := fun _ _ _ h ho => h.only ho

def NoLimb (cs : List Value) : Prop := ∀ (o : Nat) (n : Int), cs[o]? ≠ some (.int .u64 n)

theorem IV.far_blk {w : World} {s : Bool} {A : Option Addr} {k c g : Nat} {z : Int} {t : TypeId} {cs : List Value} (h : IV w (.agg #[.bool s, .slice A k c]) z) (hb : Blk w g t cs) (hn : NoLimb cs) : Far g A k := fun hk p hp hc => by
  obtain ⟨A1, c1, xs, e, h2, h3, h4, h5⟩ := h.mag
  injection e with e1 e2 e3
  subst e1 e2
  obtain ⟨b, o, e2, hcell⟩ := h2.read 0 hk
  rw [hp] at e2
  injection e2 with e2
  subst e2
  simp only at hc
  subst hc
  rw [hb.cell] at hcell
  exact hn _ _ hcell

theorem noLimb3 (s : Bool) (A : Option Addr) (k c : Nat) (e : Int) : NoLimb [.bool s, .slice A k c, .int .i64 e] := fun o n h => by
  rcases o with _ | _ | _ | o <;> simp at h

theorem noLimb2 (s : Bool) (A : Option Addr) (k c : Nat) : NoLimb [.bool s, .slice A k c] := fun o n h => by
  rcases o with _ | _ | o <;> simp at h

/-! ### Known blocks -/

structure EB where
  g : Nat
  t : TypeId
  cs : List Value

structure KB (w0 w : World) (L : List EB) : Prop where
  only : Only [] w0 w
  all : ∀ (i : Nat) (x : EB), L[i]? = some x → Blk w x.g x.t x.cs

theorem KB.start (w : World) : KB w w [] := ⟨Only.refl _ _, fun i x h => by simp at h⟩

theorem KB.step {w0 w w' : World} {L : List EB} (h : KB w0 w L) (ho : Only [] w w') : KB w0 w' L := ⟨h.only.nil_trans ho, fun i x hx => (h.all i x hx).only ho (by simp)⟩

theorem KB.new {w0 w : World} {L : List EB} (h : KB w0 w L) (t : TypeId) (cs : List Value) : KB w0 (w.alloc (.cells cs.toArray t)) (⟨w.heap.size, t, cs⟩ :: L) :=
  ⟨h.only.alloc _, fun i x hx => by
    rcases i with _ | i
    · obtain rfl := Option.some.inj hx
      exact Blk.new w t cs
    · exact (h.all i x hx).alloc _⟩

theorem KB.blk {w0 w : World} {L : List EB} (h : KB w0 w L) (i : Nat) {g : Nat} {t : TypeId} {cs : List Value} (hi : L[i]? = some ⟨g, t, cs⟩) : Blk w g t cs := h.all i _ hi

theorem KB.c2 {w0 w : World} {L : List EB} (h : KB w0 w L) (i : Nat) {g : Nat} {t : TypeId} {u v : Value} (hi : L[i]? = some ⟨g, t, [u, v]⟩) :
    w.cell? ⟨g, 0, none⟩ = some u ∧ w.cell? ⟨g, 1, none⟩ = some v ∧ w.frozen? ⟨g, 0, none⟩ = false ∧ w.frozen? ⟨g, 1, none⟩ = false :=
  ⟨(h.blk i hi).cell 0, (h.blk i hi).cell 1, (h.blk i hi).frozen 0, (h.blk i hi).frozen 1⟩

theorem KB.c3 {w0 w : World} {L : List EB} (h : KB w0 w L) (i : Nat) {g : Nat} {t : TypeId} {u v x : Value} (hi : L[i]? = some ⟨g, t, [u, v, x]⟩) :
    w.cell? ⟨g, 0, none⟩ = some u ∧ w.cell? ⟨g, 1, none⟩ = some v ∧ w.cell? ⟨g, 2, none⟩ = some x ∧ w.frozen? ⟨g, 0, none⟩ = false ∧ w.frozen? ⟨g, 1, none⟩ = false ∧ w.frozen? ⟨g, 2, none⟩ = false :=
  ⟨(h.blk i hi).cell 0, (h.blk i hi).cell 1, (h.blk i hi).cell 2, (h.blk i hi).frozen 0, (h.blk i hi).frozen 1, (h.blk i hi).frozen 2⟩

theorem only_set3 (w : World) (b : Nat) (x y u : Value) : Only [b] w (((w.setCell ⟨b, 0, none⟩ x).setCell ⟨b, 1, none⟩ y).setCell ⟨b, 2, none⟩ u) := (((Only.refl [b] w).setCell (.inl (by simp)) x).setCell (.inl (by simp)) y).setCell (.inl (by simp)) u

end Go.Proofs.YtigpnopeacicpaaDoor
/-
  Dyads: Make, Of, Sign, Top.
-/
namespace Go.Proofs.YtigpnopeacicpaaDoor
set_option linter.unusedSimpArgs false
open Go.RowKit

theorem Tab6.keep {w w' : World} (h : Tab6 w) (ho : Only [] w w') : Tab6 w' := by
  unfold Tab6 at *
  exact tabis_only h ho

theorem IV.zero (w : World) : IV w (.agg #[.bool false, .slice none 0 0]) 0 := ⟨false, none, 0, 0, 0, rfl, NV.nil w, rfl⟩

theorem DV.of {w : World} {s : Bool} {A : Option Addr} {k c : Nat} {x : Dy} (h : Hid (IV w (.agg #[.bool s, .slice A k c]) x.z)) : Hid (DV w (.agg #[.bool s, .slice A k c, .int .i64 x.e]) x) := ⟨s, A, k, c, rfl, h.out⟩

end Go.Proofs.YtigpnopeacicpaaDoor
/-
  Dyads: Top, Not, Mul.
-/
namespace Go.Proofs.YtigpnopeacicpaaDoor
set_option linter.unusedSimpArgs false
open Go.RowKit

end Go.Proofs.YtigpnopeacicpaaDoor
/-
  Dyads: align.
-/
namespace Go.Proofs.YtigpnopeacicpaaDoor
set_option linter.unusedSimpArgs false
open Go.RowKit

end Go.Proofs.YtigpnopeacicpaaDoor

/-
  Whole numbers: times a power of two.
-/
namespace Go.Proofs.YtigpnopeacicpaaDoor
open Go.RowKit
set_option linter.unusedSimpArgs false

theorem makeH_w {w : World} {a : Value} {n : Nat} {z : Int} (s : Bool) (ha : Hid (NV w a n)) (hz : sg s n = z) : Calls Tryd.prog 33 #[.bool s, a] w (WPost z w w) := hz ▸ make_w s ha

def WPostC (z : Int) (w : World) (e : Ending) (w' : World) : Prop := ∃ s A k c, e = .returned (.agg #[.bool s, .slice A k c]) ∧ Cn s k z ∧ IV w' (.agg #[.bool s, .slice A k c]) z ∧ Only [] w w'

theorem WPost.c {z : Int} {w0 w : World} {e : Ending} {w' : World} (h : WPost z w0 w e w') : WPostC z w e w' := by
  obtain ⟨s, A, k, c, h1, h2, h3, h4, h5⟩ := h
  exact ⟨s, A, k, c, h1, ⟨h2, h3.len⟩, h4, h5⟩

theorem grow_wcc {f : FuncId} {args : Array Value} {w : World} {z : Int} (h : Calls Tryd.prog f args w (WPostC z w)) :
    Calls Tryd.prog f args w fun e w'' => ∃ u, e = .returned u ∧ Only [] w w'' ∧ isWC z u w'' :=
  h.mono fun _ _ ⟨s, A, k, c, he, hc, hv, ho2⟩ => ⟨_, he, ho2, s, A, k, c, rfl, hc, hv⟩

def isRow1 (z : Int) : VP := fun u w => ∃ g s A k c, u = .slice (some ⟨g, 0, none⟩) 1 1 ∧ Blk w g 44 [.bool s, .slice A k c] ∧ IV w (.agg #[.bool s, .slice A k c]) z

theorem isRow1.lasts (z : Int) : Lasts (isRow1 z) := fun _ _ _ ⟨g, s, A, k, c, h1, h2, h3⟩ ho => ⟨g, s, A, k, c, h1, h2.only ho (by simp), h3.only ho⟩

theorem isRow1.new {w : World} {s : Bool} {A : Option Addr} {k c : Nat} {z : Int} (h : Hid (IV w (.agg #[.bool s, .slice A k c]) z)) : Only [] w (w.alloc (.cells #[.bool s, .slice A k c] 44)) ∧ isRow1 z (.slice (some ⟨w.heap.size, 0, none⟩) 1 1) (w.alloc (.cells #[.bool s, .slice A k c] 44)) :=
  have ho : Only [] w (w.alloc (.cells #[.bool s, .slice A k c] 44)) := (Only.refl [] w).alloc _
  ⟨ho, _, s, A, k, c, rfl, Blk.new w 44 [.bool s, .slice A k c], h.out.only ho⟩

end Go.Proofs.YtigpnopeacicpaaDoor
