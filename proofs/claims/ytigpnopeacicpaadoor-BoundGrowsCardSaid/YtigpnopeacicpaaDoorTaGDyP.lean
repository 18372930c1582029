/-
  Dyads, plain: numbers z times 2^e, their values as rational numbers, their sums, products, order.
-/
import Derived.Test.YtigpnopeacicpaaDoorTaGWhA
namespace Go.Proofs.YtigpnopeacicpaaDoor
set_option linter.unusedSimpArgs false

/-- z times 2^e. -/
structure Dy where
  z : Int
  e : Int
abbrev p2 (e : Int) : Rat := (2 : Rat) ^ e
/-- The value. -/
def Dy.q (x : Dy) : Rat := (x.z : Rat) * p2 x.e
/-- The normal form: an odd amount, or 0. -/
def nrm (z e : Int) : Dy := if z = 0 then ⟨0, 0⟩ else ⟨sg (decide (z < 0)) (z.natAbs / 2 ^ lowN z.natAbs), e + (lowN z.natAbs : Int)⟩
theorem nrm_zero (e : Int) : nrm 0 e = ⟨0, 0⟩ := rfl
theorem nrm_nz {z : Int} (e : Int) (h : z ≠ 0) : nrm z e = ⟨sg (decide (z < 0)) (z.natAbs / 2 ^ lowN z.natAbs), e + (lowN z.natAbs : Int)⟩ := by unfold nrm; rw [if_neg h]
/-- The normal form. -/
def Can (x : Dy) : Prop := (x.z = 0 ∧ x.e = 0) ∨ x.z % 2 = 1
/-! ### Sums, products, order -/
def dAdd (x y : Dy) : Dy := if x.z = 0 then nrm y.z y.e else if y.z = 0 then nrm x.z x.e else nrm (x.z * 2 ^ (x.e - min x.e y.e).toNat + y.z * 2 ^ (y.e - min x.e y.e).toNat) (min x.e y.e)
def dNot (x : Dy) : Dy := nrm (-x.z) x.e
def dSub (x y : Dy) : Dy := dAdd x (dNot y)
end Go.Proofs.YtigpnopeacicpaaDoor
/-
  Dyads, plain: how great they are, bounds.
-/
namespace Go.Proofs.YtigpnopeacicpaaDoor
set_option linter.unusedSimpArgs false

theorem bitsN_spec {n : Nat} (h : n ≠ 0) : ∃ b, bitsN n = b + 1 ∧ 2 ^ b ≤ n ∧ n < 2 ^ (b + 1) := by
  refine ⟨Nat.log2 n, by unfold bitsN; rw [if_neg h], ?_, ?_⟩
  · exact Nat.log2_self_le h
  · exact Nat.lt_log2_self
theorem bitsN_lt (n : Nat) : n < 2 ^ bitsN n := by
  by_cases h : n = 0
  · subst h; decide
  · obtain ⟨b, h1, h2, h3⟩ := bitsN_spec h
    rw [h1]; exact h3
theorem bitsN_le {n k : Nat} (h : n < 2 ^ k) : bitsN n ≤ k := by
  by_cases h0 : n = 0
  · subst h0; exact Nat.zero_le _
  · obtain ⟨b, h1, h2, h3⟩ := bitsN_spec h0
    rw [h1]
    apply Nat.lt_of_not_le
    intro hc
    have := Nat.pow_le_pow_right (n := 2) (by omega) hc
    omega
theorem bitsN_ge {n k : Nat} (h : 2 ^ k ≤ n) : k + 1 ≤ bitsN n := by
  have h1 := bitsN_lt n
  apply Nat.lt_of_not_le
  intro hc
  have := Nat.pow_le_pow_right (n := 2) (by omega) hc
  omega
theorem lowN_lt {n : Nat} (h : n ≠ 0) : lowN n < bitsN n := by
  obtain ⟨m, hm⟩ := lowN_spec h
  have h1 : 2 ^ lowN n ≤ n := by
    have h3 := Nat.mul_le_mul_left (2 ^ lowN n) (show 1 ≤ 2 * m + 1 by omega)
    omega
  exact bitsN_ge h1
theorem lowN_le_bits (n : Nat) : lowN n ≤ bitsN n := by
  by_cases h : n = 0
  · subst h; rw [lowN_zero]; exact Nat.zero_le _
  · exact Nat.le_of_lt (lowN_lt h)
/-- Aligned. -/
def alX (x y : Dy) : Int := x.z * 2 ^ (x.e - min x.e y.e).toNat
def alY (x y : Dy) : Int := y.z * 2 ^ (y.e - min x.e y.e).toNat
theorem dAdd_al {x y : Dy} (hx : x.z ≠ 0) (hy : y.z ≠ 0) : dAdd x y = nrm (alX x y + alY x y) (min x.e y.e) := by
  unfold dAdd alX alY
  rw [if_neg hx, if_neg hy]
theorem dAdd_x0 {x y : Dy} (hx : x.z = 0) : dAdd x y = nrm y.z y.e := by unfold dAdd; rw [if_pos hx]
theorem dAdd_y0 {x y : Dy} (hx : x.z ≠ 0) (hy : y.z = 0) : dAdd x y = nrm x.z x.e := by unfold dAdd; rw [if_neg hx, if_pos hy]

/-! ### Bounds -/
structure Bnd (N : Nat) (x : Dy) : Prop where
  z : x.z.natAbs < 2 ^ N
  lo : -(N : Int) ≤ x.e
  hi : x.e ≤ (N : Int)
theorem two_mono {a b : Nat} (h : a ≤ b) : 2 ^ a ≤ 2 ^ b := Nat.pow_le_pow_right (by omega) h
theorem Bnd.mono {N M : Nat} {x : Dy} (h : Bnd N x) (hn : N ≤ M) : Bnd M x := ⟨Nat.lt_of_lt_of_le h.z (two_mono hn), by have := h.lo; omega, by have := h.hi; omega⟩
theorem bnd_nrm {K M N : Nat} {z e : Int} (hz : z.natAbs < 2 ^ K) (h1 : -(M : Int) ≤ e) (h2 : e ≤ (M : Int)) (hN : K + M ≤ N) : Bnd N (nrm z e) := by
  by_cases h : z = 0
  · subst h
    exact ⟨by rw [nrm_zero]; exact Nat.pow_pos (by omega), by rw [nrm_zero]; show -(N : Int) ≤ 0; omega, by rw [nrm_zero]; show (0 : Int) ≤ N; omega⟩
  · rw [nrm_nz e h]
    have h3 := lowN_lt (n := z.natAbs) (by omega)
    have h4 := bitsN_le hz
    refine ⟨?_, ?_, ?_⟩
    · show (sg _ _).natAbs < _
      rw [sg_abs]
      exact Nat.lt_of_le_of_lt (Nat.div_le_self _ _) (Nat.lt_of_lt_of_le hz (two_mono (by omega)))
    · show _ ≤ e + _
      omega
    · show e + _ ≤ _
      omega
theorem abs_shl_lt {z : Int} {N k : Nat} (h : z.natAbs < 2 ^ N) : (z * 2 ^ k).natAbs < 2 ^ (N + k) := by
  rw [Int.natAbs_mul, Int.natAbs_pow, Nat.pow_add]
  exact Nat.mul_lt_mul_of_pos_right h (Nat.pow_pos (by decide))
theorem abs_add_lt {a b : Int} {N : Nat} (ha : a.natAbs < 2 ^ N) (hb : b.natAbs < 2 ^ N) : (a + b).natAbs < 2 ^ (N + 1) := by rw [Nat.pow_succ]; omega
theorem Bnd.not {N M : Nat} {x : Dy} (h : Bnd N x) (hM : 2 * N ≤ M) : Bnd M (dNot x) := bnd_nrm (by rw [Int.natAbs_neg]; exact h.z) h.lo h.hi (by omega)
theorem Bnd.norm {N M : Nat} {x : Dy} (h : Bnd N x) (hM : 2 * N ≤ M) : Bnd M (nrm x.z x.e) := bnd_nrm h.z h.lo h.hi (by omega)
theorem Bnd.alX {N : Nat} {x y : Dy} (h : Bnd N x) (h' : Bnd N y) : (alX x y).natAbs < 2 ^ (3 * N) := by
  have h1 := abs_shl_lt (k := (x.e - min x.e y.e).toNat) h.z
  have := h.lo; have := h.hi; have := h'.lo; have := h'.hi
  exact Nat.lt_of_lt_of_le h1 (two_mono (by omega))
theorem Bnd.alY {N : Nat} {x y : Dy} (h : Bnd N x) (h' : Bnd N y) : (alY x y).natAbs < 2 ^ (3 * N) := by
  have h1 := abs_shl_lt (k := (y.e - min x.e y.e).toNat) h'.z
  have := h.lo; have := h.hi; have := h'.lo; have := h'.hi
  exact Nat.lt_of_lt_of_le h1 (two_mono (by omega))
theorem Bnd.add {N M : Nat} {x y : Dy} (h : Bnd N x) (h' : Bnd N y) (hM : 4 * N + 1 ≤ M) : Bnd M (dAdd x y) := by
  by_cases hx : x.z = 0
  · rw [dAdd_x0 hx]; exact h'.norm (by omega)
  · by_cases hy : y.z = 0
    · rw [dAdd_y0 hx hy]; exact h.norm (by omega)
    · rw [dAdd_al hx hy]
      have := h.lo; have := h.hi; have := h'.lo; have := h'.hi
      exact bnd_nrm (K := 3 * N + 1) (M := N) (abs_add_lt (h.alX h') (h.alY h')) (by omega) (by omega) (by omega)
theorem Bnd.sub {N M : Nat} {x y : Dy} (h : Bnd N x) (h' : Bnd N y) (hM : 8 * N + 1 ≤ M) : Bnd M (dSub x y) := (h.mono (show N ≤ 2 * N by omega)).add (h'.not (Nat.le_refl _)) (by omega)
end Go.Proofs.YtigpnopeacicpaaDoor
/-
  Dyads, plain: rounding to so many bits.
-/
namespace Go.Proofs.YtigpnopeacicpaaDoor
set_option linter.unusedSimpArgs false

/-- A number of P bits at most. -/
def Short (P : Nat) (s : Dy) : Prop := s.z.natAbs < 2 ^ P
/-- r is what a number (told by what is not above it, and not below it) is rounded to. -/
structure Rd (P : Nat) (up : Bool) (le ge : Rat → Prop) (r : Dy) : Prop where
  can : Can r
  short : Short P r
  dn : up = false → le r.q ∧ ∀ s, Short P s → le s.q → s.q ≤ r.q
  upw : up = true → ge r.q ∧ ∀ s, Short P s → ge s.q → r.q ≤ s.q
theorem Rd.congr {P : Nat} {up : Bool} {le ge le' ge' : Rat → Prop} {r : Dy} (h : Rd P up le ge r) (h1 : ∀ s, Short P s → (le s.q ↔ le' s.q)) (h2 : ∀ s, Short P s → (ge s.q ↔ ge' s.q)) : Rd P up le' ge' r :=
  ⟨h.can, h.short, fun hu => ⟨(h1 _ h.short).1 (h.dn hu).1, fun s hs hl => (h.dn hu).2 s hs ((h1 s hs).2 hl)⟩, fun hu => ⟨(h2 _ h.short).1 (h.upw hu).1, fun s hs hl => (h.upw hu).2 s hs ((h2 s hs).2 hl)⟩⟩
theorem rat_le_antisymm {a b : Rat} (h : a ≤ b) (h' : b ≤ a) : a = b := by grind
end Go.Proofs.YtigpnopeacicpaaDoor
/-
  Dyads, plain: quotients and roots, rounded.
-/
namespace Go.Proofs.YtigpnopeacicpaaDoor
set_option linter.unusedSimpArgs false

theorem sq_le_of {a b : Rat} (h0 : 0 ≤ b) (h : a * a ≤ b * b) : a ≤ b := by
  apply Decidable.byContradiction
  intro hc
  have h3 : b < a := Rat.not_le.1 hc
  have h1 := Rat.mul_le_mul_of_nonneg_left (Rat.le_of_lt h3) h0
  have h2 := Rat.mul_lt_mul_of_pos_right h3 (show 0 < a by grind)
  grind
/-- What is not above a root, and not below it. -/
def leRt (X : Rat) (s : Rat) : Prop := s ≤ 0 ∨ s * s ≤ X
def geRt (X : Rat) (s : Rat) : Prop := 0 ≤ s ∧ X ≤ s * s
/-! ### Quotients -/
end Go.Proofs.YtigpnopeacicpaaDoor
/-
  Dyads, plain: roots, rounded; bounds of what is rounded.
-/
namespace Go.Proofs.YtigpnopeacicpaaDoor
set_option linter.unusedSimpArgs false

/-! ### Bounds -/
end Go.Proofs.YtigpnopeacicpaaDoor
/-
  Dyads, plain: what has few enough bits is not rounded.
-/
namespace Go.Proofs.YtigpnopeacicpaaDoor
set_option linter.unusedSimpArgs false

theorem Rd.exact {P : Nat} {up : Bool} {t : Rat} {r s : Dy} (h : Rd P up (· ≤ t) (t ≤ ·) r) (hs : Short P s) (he : s.q = t) : r.q = t := by
  cases up
  · obtain ⟨h1, h2⟩ := h.dn rfl
    have := h2 s hs (by rw [he]; exact Rat.le_refl)
    exact rat_le_antisymm h1 (by rw [← he]; exact this)
  · obtain ⟨h1, h2⟩ := h.upw rfl
    have := h2 s hs (by rw [he]; exact Rat.le_refl)
    exact rat_le_antisymm (by rw [← he]; exact this) h1
theorem Rd.root {P : Nat} {up : Bool} {X : Rat} {r s : Dy} (h : Rd P up (leRt X) (geRt X) r) (hs : Short P s) (h0 : 0 ≤ s.q) (he : s.q * s.q = X) : r.q = s.q := by
  subst he
  cases up
  · obtain ⟨h1, h2⟩ := h.dn rfl
    have h3 := h2 s hs (.inr Rat.le_refl)
    rcases h1 with h1 | h1
    · grind
    · exact rat_le_antisymm (sq_le_of h0 h1) h3
  · obtain ⟨h1, h2⟩ := h.upw rfl
    have h3 := h2 s hs ⟨h0, Rat.le_refl⟩
    exact rat_le_antisymm h3 (sq_le_of h1.1 h1.2)
end Go.Proofs.YtigpnopeacicpaaDoor
