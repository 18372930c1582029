/-
  What math/bits' Div64 reckons: the plain law.
-/
import Derived.Test.YtphjcphcgnjogaaDoorValC
import Derived.Lib.ItoaNum
import Derived.Laws.Bits64b
namespace Go.Proofs.YtphjcphcgnjogaaDoor
open Go

theorem lead_norm {y : Nat} (h0 : y ≠ 0) (hy : y < BB) : 64 - Lib.bitLen y ≤ 63 ∧ Lib.bitLen y ≤ 64 ∧ y * 2 ^ (64 - Lib.bitLen y) < BB ∧ BB ≤ 2 * (y * 2 ^ (64 - Lib.bitLen y)) := by
  rw [BB_pow] at hy ⊢
  have hb := Lib.bitLenAux_bounds 64 y hy h0
  have hl : Lib.bitLen y ≤ 64 := Lib.bitLen_le y 64 (by omega) hy
  have e : Lib.bitLenAux 64 y = Lib.bitLen y := rfl
  rw [e] at hb
  obtain ⟨b1, b2, b3⟩ := hb
  generalize Lib.bitLen y = L at *
  refine ⟨by omega, hl, ?_, ?_⟩
  · have h1 : y * 2 ^ (64 - L) < 2 ^ L * 2 ^ (64 - L) := Nat.mul_lt_mul_of_pos_right b3 (Nat.pow_pos (by omega))
    rw [← Nat.pow_add, show L + (64 - L) = 64 by omega] at h1
    exact h1
  · have h1 : 2 ^ (L - 1) * 2 ^ (64 - L) ≤ y * 2 ^ (64 - L) := Nat.mul_le_mul_right _ b2
    rw [← Nat.pow_add, show L - 1 + (64 - L) = 63 by omega] at h1
    have : (2 : Nat) ^ 64 = 2 * 2 ^ 63 := by rw [← Nat.pow_succ']
    omega

/-- The half limbs. -/
structure D64 (hi lo y s Y y1 y0 h1 l1 u n d1 d0 : Nat) : Prop where
  e1 : IntKind.u64.wrap ((y : Int) * 2 ^ s) = (Y : Int)
  e2 : (Y : Int) / 4294967296 = (y1 : Int)
  e3 : bits .and .u64 (Y : Int) 4294967295 = (y0 : Int)
  e4 : IntKind.u64.wrap ((hi : Int) * 2 ^ s) = (h1 : Int)
  e5 : (lo : Int) / 2 ^ (64 - s) = (l1 : Int)
  e6 : bits .or .u64 (h1 : Int) (l1 : Int) = (u : Int)
  e7 : IntKind.u64.wrap ((lo : Int) * 2 ^ s) = (n : Int)
  e8 : (n : Int) / 4294967296 = (d1 : Int)
  e9 : bits .and .u64 (n : Int) 4294967295 = (d0 : Int)
  fY : Y = y1 * 4294967296 + y0
  fy : Y = y * 2 ^ s
  lY : Y < BB
  l0 : y0 < 4294967296
  lh : 4294967296 ≤ 2 * y1
  ll : y1 < 4294967296
  ld1 : d1 < 4294967296
  ld0 : d0 < 4294967296
  lu : u < Y
  fn : u * BB + n = (hi * BB + lo) * 2 ^ s
  fd : n = d1 * 4294967296 + d0
theorem and_mask (a : Nat) (ha : a < 18446744073709551616) : bits .and .u64 (a : Int) 4294967295 = ((a % 4294967296 : Nat) : Int) := by
  have h := bits_and_u64_nat a 4294967295 ha (by omega)
  have e : a &&& 4294967295 = a % 4294967296 := Nat.and_two_pow_sub_one_eq_mod a 32
  rw [e] at h
  exact h
theorem d64_facts {hi lo y s : Nat} (hh : hi < y) (hl : lo < BB) (hs : s ≤ 63) (h1 : y * 2 ^ s < BB) (h2 : BB ≤ 2 * (y * 2 ^ s)) :
    ∃ Y y1 y0 g1 l1 u n d1 d0, D64 hi lo y s Y y1 y0 g1 l1 u n d1 d0 := by
  have hv := BB_val
  have hp : 0 < 2 ^ s := Nat.pow_pos (by omega)
  have hsp : (2 : Nat) ^ s * 2 ^ (64 - s) = BB := by rw [← Nat.pow_add, BB_pow]; congr 1; omega
  have hhs : hi * 2 ^ s + 2 ^ s ≤ y * 2 ^ s := by
    have := Nat.mul_le_mul_right (2 ^ s) hh
    rw [Nat.succ_mul] at this
    exact this
  have hl1 : lo / 2 ^ (64 - s) < 2 ^ s := by
    rw [Nat.div_lt_iff_lt_mul (Nat.pow_pos (by omega)), hsp]
    exact hl
  have hn : lo * 2 ^ s = lo / 2 ^ (64 - s) * BB + (lo * 2 ^ s) % BB := by
    have h3 := Nat.div_add_mod (lo * 2 ^ s) BB
    have h4 : lo * 2 ^ s / BB = lo / 2 ^ (64 - s) := by
      rw [← hsp, Nat.mul_comm (2 ^ s), Nat.mul_div_mul_right _ _ hp]
    rw [h4, Nat.mul_comm] at h3
    omega
  have hnl : (lo * 2 ^ s) % BB < BB := Nat.mod_lt _ BB_pos
  have hor : hi * 2 ^ s + lo / 2 ^ (64 - s) = hi * 2 ^ s ||| lo / 2 ^ (64 - s) := by
    rw [Nat.mul_comm hi]
    exact Nat.two_pow_add_eq_or_of_lt hl1 hi
  refine ⟨y * 2 ^ s, y * 2 ^ s / 4294967296, y * 2 ^ s % 4294967296, hi * 2 ^ s, lo / 2 ^ (64 - s), hi * 2 ^ s + lo / 2 ^ (64 - s), (lo * 2 ^ s) % BB, (lo * 2 ^ s) % BB / 4294967296, (lo * 2 ^ s) % BB % 4294967296, ?_⟩
  generalize hYe : y * 2 ^ s = Y at *
  constructor
  · have : (y : Int) * 2 ^ s = ((y * 2 ^ s : Nat) : Int) := by simp
    rw [this, hYe, IntKind.wrap_u64]
    omega
  · omega
  · exact and_mask Y (by omega)
  · have : (hi : Int) * 2 ^ s = ((hi * 2 ^ s : Nat) : Int) := by simp
    rw [this, IntKind.wrap_u64]
    omega
  · simp
  · rw [hor]
    exact bits_or_u64_nat _ _ (by omega) (by omega)
  · have : (lo : Int) * 2 ^ s = ((lo * 2 ^ s : Nat) : Int) := by simp
    rw [this, IntKind.wrap_u64, hv]
    omega
  · omega
  · exact and_mask _ (by omega)
  · omega
  · exact hYe.symm
  · omega
  · omega
  · omega
  · omega
  · omega
  · omega
  · omega
  · rw [Nat.add_mul, Nat.add_mul]
    have : hi * BB * 2 ^ s = hi * 2 ^ s * BB := Nat.mul_right_comm _ _ _
    omega
  · omega
set_option maxRecDepth 100000 in
/-- The two digits together. -/
theorem d64_end {hi lo y s Y y1 y0 h1 l1 u n d1 d0 : Nat} (h : D64 hi lo y s Y y1 y0 h1 l1 u n d1 d0) :
    (u * 4294967296 + d1) / Y * 4294967296 + ((u * 4294967296 + d1) % Y * 4294967296 + d0) / Y = (hi * BB + lo) / y ∧ ((u * 4294967296 + d1) % Y * 4294967296 + d0) % Y / 2 ^ s = (hi * BB + lo) % y := by
  have hp : 0 < 2 ^ s := Nat.pow_pos (by omega)
  have hY : 0 < Y := by have := h.lu; omega
  have e1 := Nat.div_add_mod (u * 4294967296 + d1) Y
  have m1 := Nat.mod_lt (u * 4294967296 + d1) hY
  have e2 := Nat.div_add_mod ((u * 4294967296 + d1) % Y * 4294967296 + d0) Y
  have m2 := Nat.mod_lt ((u * 4294967296 + d1) % Y * 4294967296 + d0) hY
  have hN : (hi * BB + lo) * 2 ^ s = Y * ((u * 4294967296 + d1) / Y * 4294967296 + ((u * 4294967296 + d1) % Y * 4294967296 + d0) / Y) + ((u * 4294967296 + d1) % Y * 4294967296 + d0) % Y := by
    rw [← h.fn, h.fd, BB_val, Nat.mul_add, ← Nat.mul_assoc]
    omega
  obtain ⟨Q, hQ⟩ : ∃ Q, (u * 4294967296 + d1) / Y * 4294967296 + ((u * 4294967296 + d1) % Y * 4294967296 + d0) / Y = Q := ⟨_, rfl⟩
  obtain ⟨R, hR⟩ : ∃ R, ((u * 4294967296 + d1) % Y * 4294967296 + d0) % Y = R := ⟨_, rfl⟩
  rw [hQ, hR] at hN
  rw [hR] at m2
  rw [hQ, hR]
  constructor
  · have h3 : (hi * BB + lo) * 2 ^ s / Y = Q := by rw [hN, Nat.mul_add_div hY, Nat.div_eq_of_lt m2, Nat.add_zero]
    rw [h.fy, Nat.mul_div_mul_right _ _ hp] at h3
    exact h3.symm
  · have h3 : (hi * BB + lo) * 2 ^ s % Y = R := by rw [hN, Nat.mul_add_mod, Nat.mod_eq_of_lt m2]
    rw [h.fy, Nat.mul_mod_mul_right] at h3
    rw [← h3, Nat.mul_div_cancel _ hp]
set_option maxRecDepth 100000 in
/-- What wraps comes back. -/
theorem wrap_digit {u d q Y : Nat} (hY : 0 < Y) (hYl : Y < BB) (hq : q = (u * 4294967296 + d) / Y) : ∃ m1 m2 m3 : Nat,
    IntKind.u64.wrap ((u : Int) * 4294967296) = (m1 : Int) ∧ IntKind.u64.wrap ((m1 : Int) + (d : Int)) = (m2 : Int) ∧ IntKind.u64.wrap ((q : Int) * (Y : Int)) = (m3 : Int) ∧ IntKind.u64.wrap ((m2 : Int) - (m3 : Int)) = (((u * 4294967296 + d) % Y : Nat) : Int) := by
  have e := Nat.div_add_mod (u * 4294967296 + d) Y
  have hm := Nat.mod_lt (u * 4294967296 + d) hY
  rw [← hq] at e
  have hc : (q : Int) * (Y : Int) = ((Y * q : Nat) : Int) := by rw [Nat.mul_comm]; simp
  rw [BB_val] at hYl
  generalize (u * 4294967296 + d) % Y = R at *
  generalize hP : Y * q = P at *
  refine ⟨u * 4294967296 % 18446744073709551616, (u * 4294967296 % 18446744073709551616 + d) % 18446744073709551616, P % 18446744073709551616, ?_, ?_, ?_, ?_⟩
  · rw [IntKind.wrap_u64]; omega
  · rw [IntKind.wrap_u64]; omega
  · rw [hc, IntKind.wrap_u64]; omega
  · rw [IntKind.wrap_u64]; omega
end Go.Proofs.YtphjcphcgnjogaaDoor
