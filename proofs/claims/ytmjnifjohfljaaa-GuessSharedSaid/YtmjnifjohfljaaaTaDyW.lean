/-
  Dyads, plain: how great they are, bounds.
-/
import Derived.Test.YtmjnifjohfljaaaTaDyV
namespace Go.Proofs.Ytmjnifjohfljaaa
set_option linter.unusedSimpArgs false

theorem bitsN_spec {n : Nat} (h : n ≠ 0) : ∃ b, bitsN n = b + 1 ∧ 2 ^ b ≤ n ∧ n < 2 ^ (b + 1) := by
  refine ⟨Nat.log2 n, by unfold bitsN; rw [if_neg h], ?_, ?_⟩
  · exact Nat.log2_self_le h
  · exact Nat.lt_log2_self
theorem bitsN_lt (n : Nat) : n < 2 ^ bitsN n := by
  by_cases h : n = 0
  · subst h; decide
  · obtain ⟨b, h1, h2, h3⟩ := bitsN_spec h
    rw [h1]; exact h3
theorem bitsN_le {n k : Nat} (h : n < 2 ^ k) : bitsN n ≤ k := by
  by_cases h0 : n = 0
  · subst h0; exact Nat.zero_le _
  · obtain ⟨b, h1, h2, h3⟩ := bitsN_spec h0
    rw [h1]
    apply Nat.lt_of_not_le
    intro hc
    have := Nat.pow_le_pow_right (n := 2) (by omega) hc
    omega
theorem bitsN_ge {n k : Nat} (h : 2 ^ k ≤ n) : k + 1 ≤ bitsN n := by
  have h1 := bitsN_lt n
  apply Nat.lt_of_not_le
  intro hc
  have := Nat.pow_le_pow_right (n := 2) (by omega) hc
  omega
theorem lowN_lt {n : Nat} (h : n ≠ 0) : lowN n < bitsN n := by
  obtain ⟨m, hm⟩ := lowN_spec h
  have h1 : 2 ^ lowN n ≤ n := by
    have h3 := Nat.mul_le_mul_left (2 ^ lowN n) (show 1 ≤ 2 * m + 1 by omega)
    omega
  exact bitsN_ge h1
/-- Aligned. -/
def alX (x y : Dy) : Int := x.z * 2 ^ (x.e - min x.e y.e).toNat
def alY (x y : Dy) : Int := y.z * 2 ^ (y.e - min x.e y.e).toNat
theorem dAdd_al {x y : Dy} (hx : x.z ≠ 0) (hy : y.z ≠ 0) : dAdd x y = nrm (alX x y + alY x y) (min x.e y.e) := by
  unfold dAdd alX alY
  rw [if_neg hx, if_neg hy]
theorem dAdd_x0 {x y : Dy} (hx : x.z = 0) : dAdd x y = nrm y.z y.e := by unfold dAdd; rw [if_pos hx]
theorem dAdd_y0 {x y : Dy} (hx : x.z ≠ 0) (hy : y.z = 0) : dAdd x y = nrm x.z x.e := by unfold dAdd; rw [if_neg hx, if_pos hy]

/-! ### Bounds -/
structure Bnd (N : Nat) (x : Dy) : Prop where
  z : x.z.natAbs < 2 ^ N
  lo : -(N : Int) ≤ x.e
  hi : x.e ≤ (N : Int)
theorem two_mono {a b : Nat} (h : a ≤ b) : 2 ^ a ≤ 2 ^ b := Nat.pow_le_pow_right (by omega) h
theorem Bnd.mono {N M : Nat} {x : Dy} (h : Bnd N x) (hn : N ≤ M) : Bnd M x := ⟨Nat.lt_of_lt_of_le h.z (two_mono hn), by have := h.lo; omega, by have := h.hi; omega⟩
theorem bnd_nrm {K M N : Nat} {z e : Int} (hz : z.natAbs < 2 ^ K) (h1 : -(M : Int) ≤ e) (h2 : e ≤ (M : Int)) (hN : K + M ≤ N) : Bnd N (nrm z e) := by
  by_cases h : z = 0
  · subst h
    exact ⟨by rw [nrm_zero]; exact Nat.pow_pos (by omega), by rw [nrm_zero]; show -(N : Int) ≤ 0; omega, by rw [nrm_zero]; show (0 : Int) ≤ N; omega⟩
  · rw [nrm_nz e h]
    have h3 := lowN_lt (n := z.natAbs) (by omega)
    have h4 := bitsN_le hz
    refine ⟨?_, ?_, ?_⟩
    · show (sg _ _).natAbs < _
      rw [sg_abs]
      exact Nat.lt_of_le_of_lt (Nat.div_le_self _ _) (Nat.lt_of_lt_of_le hz (two_mono (by omega)))
    · show _ ≤ e + _
      omega
    · show e + _ ≤ _
      omega
theorem abs_shl_lt {z : Int} {N k : Nat} (h : z.natAbs < 2 ^ N) : (z * 2 ^ k).natAbs < 2 ^ (N + k) := by
  rw [Int.natAbs_mul, Int.natAbs_pow, Nat.pow_add]
  exact Nat.mul_lt_mul_of_pos_right h (Nat.pow_pos (by decide))
theorem abs_add_lt {a b : Int} {N : Nat} (ha : a.natAbs < 2 ^ N) (hb : b.natAbs < 2 ^ N) : (a + b).natAbs < 2 ^ (N + 1) := by rw [Nat.pow_succ]; omega
theorem abs_mul_lt {a b : Int} {N M : Nat} (ha : a.natAbs < 2 ^ N) (hb : b.natAbs < 2 ^ M) : (a * b).natAbs < 2 ^ (N + M) := by
  rw [Int.natAbs_mul, Nat.pow_add]
  exact Nat.mul_lt_mul_of_lt_of_lt ha hb
theorem Bnd.norm {N M : Nat} {x : Dy} (h : Bnd N x) (hM : 2 * N ≤ M) : Bnd M (nrm x.z x.e) := bnd_nrm h.z h.lo h.hi (by omega)
theorem Bnd.alX {N : Nat} {x y : Dy} (h : Bnd N x) (h' : Bnd N y) : (alX x y).natAbs < 2 ^ (3 * N) := by
  have h1 := abs_shl_lt (k := (x.e - min x.e y.e).toNat) h.z
  have := h.lo; have := h.hi; have := h'.lo; have := h'.hi
  exact Nat.lt_of_lt_of_le h1 (two_mono (by omega))
theorem Bnd.alY {N : Nat} {x y : Dy} (h : Bnd N x) (h' : Bnd N y) : (alY x y).natAbs < 2 ^ (3 * N) := by
  have h1 := abs_shl_lt (k := (y.e - min x.e y.e).toNat) h'.z
  have := h.lo; have := h.hi; have := h'.lo; have := h'.hi
  exact Nat.lt_of_lt_of_le h1 (two_mono (by omega))
theorem Bnd.add {N M : Nat} {x y : Dy} (h : Bnd N x) (h' : Bnd N y) (hM : 4 * N + 1 ≤ M) : Bnd M (dAdd x y) := by
  by_cases hx : x.z = 0
  · rw [dAdd_x0 hx]; exact h'.norm (by omega)
  · by_cases hy : y.z = 0
    · rw [dAdd_y0 hx hy]; exact h.norm (by omega)
    · rw [dAdd_al hx hy]
      have := h.lo; have := h.hi; have := h'.lo; have := h'.hi
      exact bnd_nrm (K := 3 * N + 1) (M := N) (abs_add_lt (h.alX h') (h.alY h')) (by omega) (by omega) (by omega)
theorem Bnd.mul {N M : Nat} {x y : Dy} (h : Bnd N x) (h' : Bnd N y) (hM : 4 * N ≤ M) : Bnd M (dMul x y) := by
  have := h.lo; have := h.hi; have := h'.lo; have := h'.hi
  exact bnd_nrm (K := N + N) (M := 2 * N) (abs_mul_lt h.z h'.z) (by omega) (by omega) (by omega)
end Go.Proofs.Ytmjnifjohfljaaa
