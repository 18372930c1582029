/-
  Dyads, plain: how great they are, bounds.
-/
import Derived.Test.YtcknigodcjjahaaDoorDyV
namespace Go.Proofs.YtcknigodcjjahaaDoor
set_option linter.unusedSimpArgs false

theorem bitsN_spec {n : Nat} (h : n ≠ 0) : ∃ b, bitsN n = b + 1 ∧ 2 ^ b ≤ n ∧ n < 2 ^ (b + 1) := by
  refine ⟨Nat.log2 n, by unfold bitsN; rw [if_neg h], ?_, ?_⟩
  · exact Nat.log2_self_le h
  · exact Nat.lt_log2_self
theorem bitsN_lt (n : Nat) : n < 2 ^ bitsN n := by
  by_cases h : n = 0
  · subst h; decide
  · obtain ⟨b, h1, h2, h3⟩ := bitsN_spec h
    rw [h1]; exact h3
theorem bitsN_le {n k : Nat} (h : n < 2 ^ k) : bitsN n ≤ k := by
  by_cases h0 : n = 0
  · subst h0; exact Nat.zero_le _
  · obtain ⟨b, h1, h2, h3⟩ := bitsN_spec h0
    rw [h1]
    apply Nat.lt_of_not_le
    intro hc
    have := Nat.pow_le_pow_right (n := 2) (by omega) hc
    omega
theorem bitsN_ge {n k : Nat} (h : 2 ^ k ≤ n) : k + 1 ≤ bitsN n := by
  have h1 := bitsN_lt n
  apply Nat.lt_of_not_le
  intro hc
  have := Nat.pow_le_pow_right (n := 2) (by omega) hc
  omega
theorem lowN_lt {n : Nat} (h : n ≠ 0) : lowN n < bitsN n := by
  obtain ⟨m, hm⟩ := lowN_spec h
  have h1 : 2 ^ lowN n ≤ n := by
    have h3 := Nat.mul_le_mul_left (2 ^ lowN n) (show 1 ≤ 2 * m + 1 by omega)
    omega
  exact bitsN_ge h1
theorem lowN_le_bits (n : Nat) : lowN n ≤ bitsN n := by
  by_cases h : n = 0
  · subst h; rw [lowN_zero]; exact Nat.zero_le _
  · exact Nat.le_of_lt (lowN_lt h)
theorem p2_mono {a b : Int} (h : a ≤ b) : p2 a ≤ p2 b := by
  have h1 := rat_le_iff (a := 1) (b := 2 ^ (b - a).toNat) (m := a)
  have h2 := q_down 1 b (b - a).toNat
  rw [show b - ((b - a).toNat : Int) = a by omega, Int.one_mul] at h2
  rw [h2] at h1
  have h3 := h1.2 (by have := Int.pow_pos (n := 2) (m := (b - a).toNat) (by decide); omega)
  simpa using h3
theorem p2_lt {a b : Int} (h : a < b) : p2 a < p2 b := by
  have h1 := p2_mono (show a + 1 ≤ b by omega)
  have h2 : p2 (a + 1) = p2 a * 2 := by
    rw [p2_add]; congr 1
  have := p2_pos a
  grind
/-- The value's amount lies between two powers. -/
theorem top_spec {x : Dy} (h : x.z ≠ 0) : (0 < x.z → p2 (topD x - 1) ≤ x.q ∧ x.q < p2 (topD x)) ∧ (x.z < 0 → p2 (topD x - 1) ≤ -x.q ∧ -x.q < p2 (topD x)) := by
  obtain ⟨b, h1, h2, h3⟩ := bitsN_spec (n := x.z.natAbs) (by omega)
  have ht : topD x = (b : Int) + 1 + x.e := by unfold topD; rw [if_neg h, h1]; omega
  have e1 : p2 (topD x - 1) = ((2 ^ b : Int) : Rat) * p2 x.e := by
    rw [ht, show (b : Int) + 1 + x.e - 1 = (b : Int) + x.e by omega, p2_add, p2_nat]
  have e2 : p2 (topD x) = ((2 ^ (b + 1) : Int) : Rat) * p2 x.e := by
    rw [ht, show (b : Int) + 1 + x.e = ((b + 1 : Nat) : Int) + x.e by omega, p2_add, p2_nat]
  have c1 : ((2 ^ b : Nat) : Int) = (2 : Int) ^ b := by push_cast; rfl
  have c2 : ((2 ^ (b + 1) : Nat) : Int) = (2 : Int) ^ (b + 1) := by push_cast; rfl
  rw [e1, e2]
  have hn : -x.q = ((-x.z : Int) : Rat) * p2 x.e := by unfold Dy.q; rw [Rat.intCast_neg]; grind
  rw [hn]
  unfold Dy.q
  constructor
  · intro h0
    rw [rat_le_iff, rat_lt_iff, ← c1, ← c2]
    omega
  · intro h0
    rw [rat_le_iff, rat_lt_iff, ← c1, ← c2]
    omega
theorem q_pos {x : Dy} : 0 < x.q ↔ 0 < x.z := by
  have h := rat_lt_iff (a := 0) (b := x.z) (m := x.e)
  rw [show ((0 : Int) : Rat) * p2 x.e = 0 by simp] at h
  exact h
theorem q_neg {x : Dy} : x.q < 0 ↔ x.z < 0 := by
  have h := rat_lt_iff (a := x.z) (b := 0) (m := x.e)
  rw [show ((0 : Int) : Rat) * p2 x.e = 0 by simp] at h
  exact h
theorem cmp_sign_lt {x y : Dy} (h : x.z.sign < y.z.sign) : cmpQ x.q y.q = -1 := by
  apply cmpQ_lt
  have h1 := q_pos (x := x); have h2 := q_pos (x := y); have h3 := q_neg (x := x); have h4 := q_neg (x := y)
  have h5 := q_zero (x := x); have h6 := q_zero (x := y)
  rcases sign_of x.z with ⟨a1, a2⟩ | ⟨a1, a2⟩ | ⟨a1, a2⟩ <;> rcases sign_of y.z with ⟨b1, b2⟩ | ⟨b1, b2⟩ | ⟨b1, b2⟩ <;> first | omega | skip
  · rw [h6.2 b2]; exact h3.2 a2
  · have := h3.2 a2; have := h2.2 b2; grind
  · rw [h5.2 a2]; exact h2.2 b2
theorem cmpQ_swap (a b : Rat) : cmpQ a b = -cmpQ b a := by
  rcases rat_tri a b with h | h | h
  · rw [cmpQ_lt h, cmpQ_gt h]
  · rw [cmpQ_eq h, cmpQ_eq h.symm]; rfl
  · rw [cmpQ_lt h, cmpQ_gt h]; rfl
theorem cmp_sign_gt {x y : Dy} (h : y.z.sign < x.z.sign) : cmpQ x.q y.q = 1 := by
  rw [cmpQ_swap, cmp_sign_lt h]; rfl
theorem cmp_zero {x y : Dy} (hx : x.z = 0) (hy : y.z = 0) : cmpQ x.q y.q = 0 := cmpQ_eq (by rw [q_zero.2 hx, q_zero.2 hy])
theorem cmp_top_lt {x y : Dy} (hs : x.z.sign = y.z.sign) (h0 : x.z ≠ 0) (h : topD x < topD y) : cmpQ x.q y.q = -x.z.sign := by
  have hy0 : y.z ≠ 0 := by
    intro hc
    rw [hc] at hs
    rcases sign_of x.z with ⟨a1, a2⟩ | ⟨a1, a2⟩ | ⟨a1, a2⟩ <;> simp at hs <;> omega
  obtain ⟨x1, x2⟩ := top_spec h0
  obtain ⟨y1, y2⟩ := top_spec hy0
  have hm := p2_mono (show topD x ≤ topD y - 1 by omega)
  rcases sign_of x.z with ⟨a1, a2⟩ | ⟨a1, a2⟩ | ⟨a1, a2⟩ <;> rcases sign_of y.z with ⟨b1, b2⟩ | ⟨b1, b2⟩ | ⟨b1, b2⟩ <;> first | omega | skip
  · rw [a1]
    have := x2 a2; have := y2 b2
    exact cmpQ_gt (by grind)
  · rw [a1]
    have := x1 a2; have := y1 b2
    exact cmpQ_lt (by grind)
theorem cmp_top_gt {x y : Dy} (hs : x.z.sign = y.z.sign) (h0 : y.z ≠ 0) (h : topD y < topD x) : cmpQ x.q y.q = x.z.sign := by
  rw [cmpQ_swap, cmp_top_lt hs.symm h0 h, hs, Int.neg_neg]
/-- Aligned. -/
def alX (x y : Dy) : Int := x.z * 2 ^ (x.e - min x.e y.e).toNat
def alY (x y : Dy) : Int := y.z * 2 ^ (y.e - min x.e y.e).toNat
theorem cmp_al (x y : Dy) : cmpI (alX x y) (alY x y) = cmpQ x.q y.q := by
  rw [q_at (x := x) (Int.min_le_left x.e y.e), q_at (x := y) (Int.min_le_right x.e y.e), cmpQ_at]
  rfl
theorem dAdd_al {x y : Dy} (hx : x.z ≠ 0) (hy : y.z ≠ 0) : dAdd x y = nrm (alX x y + alY x y) (min x.e y.e) := by
  unfold dAdd alX alY
  rw [if_neg hx, if_neg hy]
theorem dAdd_x0 {x y : Dy} (hx : x.z = 0) : dAdd x y = nrm y.z y.e := by unfold dAdd; rw [if_pos hx]
theorem dAdd_y0 {x y : Dy} (hx : x.z ≠ 0) (hy : y.z = 0) : dAdd x y = nrm x.z x.e := by unfold dAdd; rw [if_neg hx, if_pos hy]

/-! ### Bounds -/
structure Bnd (N : Nat) (x : Dy) : Prop where
  z : x.z.natAbs < 2 ^ N
  lo : -(N : Int) ≤ x.e
  hi : x.e ≤ (N : Int)
theorem two_mono {a b : Nat} (h : a ≤ b) : 2 ^ a ≤ 2 ^ b := Nat.pow_le_pow_right (by omega) h
theorem Bnd.mono {N M : Nat} {x : Dy} (h : Bnd N x) (hn : N ≤ M) : Bnd M x := ⟨Nat.lt_of_lt_of_le h.z (two_mono hn), by have := h.lo; omega, by have := h.hi; omega⟩
theorem bnd_nrm {K M N : Nat} {z e : Int} (hz : z.natAbs < 2 ^ K) (h1 : -(M : Int) ≤ e) (h2 : e ≤ (M : Int)) (hN : K + M ≤ N) : Bnd N (nrm z e) := by
  by_cases h : z = 0
  · subst h
    exact ⟨by rw [nrm_zero]; exact Nat.pow_pos (by omega), by rw [nrm_zero]; show -(N : Int) ≤ 0; omega, by rw [nrm_zero]; show (0 : Int) ≤ N; omega⟩
  · rw [nrm_nz e h]
    have h3 := lowN_lt (n := z.natAbs) (by omega)
    have h4 := bitsN_le hz
    refine ⟨?_, ?_, ?_⟩
    · show (sg _ _).natAbs < _
      rw [sg_abs]
      exact Nat.lt_of_le_of_lt (Nat.div_le_self _ _) (Nat.lt_of_lt_of_le hz (two_mono (by omega)))
    · show _ ≤ e + _
      omega
    · show e + _ ≤ _
      omega
theorem abs_shl_lt {z : Int} {N k : Nat} (h : z.natAbs < 2 ^ N) : (z * 2 ^ k).natAbs < 2 ^ (N + k) := by
  rw [Int.natAbs_mul, Int.natAbs_pow, Nat.pow_add]
  exact Nat.mul_lt_mul_of_pos_right h (Nat.pow_pos (by decide))
theorem abs_add_lt {a b : Int} {N : Nat} (ha : a.natAbs < 2 ^ N) (hb : b.natAbs < 2 ^ N) : (a + b).natAbs < 2 ^ (N + 1) := by rw [Nat.pow_succ]; omega
theorem abs_mul_lt {a b : Int} {N M : Nat} (ha : a.natAbs < 2 ^ N) (hb : b.natAbs < 2 ^ M) : (a * b).natAbs < 2 ^ (N + M) := by
  rw [Int.natAbs_mul, Nat.pow_add]
  exact Nat.mul_lt_mul_of_lt_of_lt ha hb
theorem Bnd.not {N M : Nat} {x : Dy} (h : Bnd N x) (hM : 2 * N ≤ M) : Bnd M (dNot x) := bnd_nrm (by rw [Int.natAbs_neg]; exact h.z) h.lo h.hi (by omega)
theorem Bnd.norm {N M : Nat} {x : Dy} (h : Bnd N x) (hM : 2 * N ≤ M) : Bnd M (nrm x.z x.e) := bnd_nrm h.z h.lo h.hi (by omega)
theorem Bnd.alX {N : Nat} {x y : Dy} (h : Bnd N x) (h' : Bnd N y) : (alX x y).natAbs < 2 ^ (3 * N) := by
  have h1 := abs_shl_lt (k := (x.e - min x.e y.e).toNat) h.z
  have := h.lo; have := h.hi; have := h'.lo; have := h'.hi
  exact Nat.lt_of_lt_of_le h1 (two_mono (by omega))
theorem Bnd.alY {N : Nat} {x y : Dy} (h : Bnd N x) (h' : Bnd N y) : (alY x y).natAbs < 2 ^ (3 * N) := by
  have h1 := abs_shl_lt (k := (y.e - min x.e y.e).toNat) h'.z
  have := h.lo; have := h.hi; have := h'.lo; have := h'.hi
  exact Nat.lt_of_lt_of_le h1 (two_mono (by omega))
theorem Bnd.add {N M : Nat} {x y : Dy} (h : Bnd N x) (h' : Bnd N y) (hM : 4 * N + 1 ≤ M) : Bnd M (dAdd x y) := by
  by_cases hx : x.z = 0
  · rw [dAdd_x0 hx]; exact h'.norm (by omega)
  · by_cases hy : y.z = 0
    · rw [dAdd_y0 hx hy]; exact h.norm (by omega)
    · rw [dAdd_al hx hy]
      have := h.lo; have := h.hi; have := h'.lo; have := h'.hi
      exact bnd_nrm (K := 3 * N + 1) (M := N) (abs_add_lt (h.alX h') (h.alY h')) (by omega) (by omega) (by omega)
theorem Bnd.sub {N M : Nat} {x y : Dy} (h : Bnd N x) (h' : Bnd N y) (hM : 8 * N + 1 ≤ M) : Bnd M (dSub x y) := (h.mono (show N ≤ 2 * N by omega)).add (h'.not (Nat.le_refl _)) (by omega)
theorem Bnd.mul {N M : Nat} {x y : Dy} (h : Bnd N x) (h' : Bnd N y) (hM : 4 * N ≤ M) : Bnd M (dMul x y) := by
  have := h.lo; have := h.hi; have := h'.lo; have := h'.hi
  exact bnd_nrm (K := N + N) (M := 2 * N) (abs_mul_lt h.z h'.z) (by omega) (by omega) (by omega)
theorem bb_two_pow (n : Nat) : BB ^ n = 2 ^ (64 * n) := by rw [BB_pow, ← Nat.pow_mul]
theorem few_two_pow {n N : Nat} (h : n < 2 ^ N) (hN : N ≤ 60000000) : Few n := by
  unfold Few
  rw [bb_two_pow]
  exact Nat.lt_of_lt_of_le h (two_mono (by rw [MX_val]; omega))
end Go.Proofs.YtcknigodcjjahaaDoor
