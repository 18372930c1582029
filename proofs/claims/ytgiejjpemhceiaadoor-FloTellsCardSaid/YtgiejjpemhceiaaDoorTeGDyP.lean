/-
  Dyads, plain: numbers z times 2^e, their values as rational numbers, their sums, products, order.
-/
import Derived.Test.YtgiejjpemhceiaaDoorTeGWhA
namespace Go.Proofs.YtgiejjpemhceiaaDoor
set_option linter.unusedSimpArgs false

structure Dy where
  z : Int
  e : Int
abbrev p2 (e : Int) : Rat := (2 : Rat) ^ e
theorem p2_pos (e : Int) : 0 < p2 e := Rat.zpow_pos (by decide)
theorem p2_add (e f : Int) : p2 (e + f) = p2 e * p2 f := Rat.zpow_add (by decide) e f
theorem p2_nat (n : Nat) : p2 (n : Int) = ((2 ^ n : Int) : Rat) := by
  unfold p2
  rw [Rat.zpow_natCast, Rat.intCast_pow]
  rfl
def Dy.q (x : Dy) : Rat := (x.z : Rat) * p2 x.e
theorem q_down (z e : Int) (n : Nat) : ((z * 2 ^ n : Int) : Rat) * p2 (e - n) = (z : Rat) * p2 e := by
  rw [Rat.intCast_mul, ← p2_nat, Rat.mul_assoc, ← p2_add]
  congr 2
  omega
def nrm (z e : Int) : Dy := if z = 0 then ⟨0, 0⟩ else ⟨sg (decide (z < 0)) (z.natAbs / 2 ^ lowN z.natAbs), e + (lowN z.natAbs : Int)⟩
theorem nrm_zero (e : Int) : nrm 0 e = ⟨0, 0⟩ := rfl
theorem nrm_nz {z : Int} (e : Int) (h : z ≠ 0) : nrm z e = ⟨sg (decide (z < 0)) (z.natAbs / 2 ^ lowN z.natAbs), e + (lowN z.natAbs : Int)⟩ := by unfold nrm; rw [if_neg h]
theorem nrm_split {z : Int} (h : z ≠ 0) : ∃ m : Nat, z.natAbs = 2 ^ lowN z.natAbs * (2 * m + 1) ∧ z.natAbs / 2 ^ lowN z.natAbs = 2 * m + 1 ∧ sg (decide (z < 0)) (z.natAbs / 2 ^ lowN z.natAbs) * 2 ^ lowN z.natAbs = z := by
  obtain ⟨m, hm⟩ := lowN_spec (n := z.natAbs) (by omega)
  have hp : 0 < 2 ^ lowN z.natAbs := Nat.pow_pos (by omega)
  have hd : z.natAbs / 2 ^ lowN z.natAbs = 2 * m + 1 := by
    rw [Nat.div_eq_iff_eq_mul_left hp ⟨_, hm⟩, Nat.mul_comm]
    exact hm
  refine ⟨m, hm, hd, ?_⟩
  rw [hd]
  have e : ((2 ^ lowN z.natAbs * (2 * m + 1) : Nat) : Int) = (2 : Int) ^ lowN z.natAbs * (2 * (m : Int) + 1) := by push_cast; rfl
  generalize (2 : Int) ^ lowN z.natAbs = P at *
  have e2 : (z.natAbs : Int) = P * (2 * (m : Int) + 1) := by rw [← e, ← hm]
  rw [Int.mul_comm]
  by_cases h0 : z < 0
  · rw [decide_eq_true h0, sg_true]
    push_cast
    rw [Int.mul_neg, ← e2]
    omega
  · rw [decide_eq_false h0, sg_false]
    push_cast
    rw [← e2]
    omega
theorem nrm_q (z e : Int) : (nrm z e).q = (z : Rat) * p2 e := by
  by_cases h : z = 0
  · subst h
    unfold Dy.q
    rw [nrm_zero]
    simp
  · obtain ⟨m, h1, h2, h3⟩ := nrm_split h
    have h4 := q_down (sg (decide (z < 0)) (z.natAbs / 2 ^ lowN z.natAbs)) (e + (lowN z.natAbs : Int)) (lowN z.natAbs)
    rw [h3, show e + (lowN z.natAbs : Int) - (lowN z.natAbs : Int) = e by omega] at h4
    unfold Dy.q
    rw [nrm_nz e h]
    exact h4.symm
def Can (x : Dy) : Prop := (x.z = 0 ∧ x.e = 0) ∨ x.z % 2 = 1
theorem nrm_can (z e : Int) : Can (nrm z e) := by
  by_cases h : z = 0
  · subst h
    exact .inl ⟨rfl, rfl⟩
  · obtain ⟨m, h1, h2, h3⟩ := nrm_split h
    right
    rw [nrm_nz e h, h2]
    show sg (decide (z < 0)) (2 * m + 1) % 2 = 1
    cases decide (z < 0) <;> simp only [sg_true, sg_false] <;> omega
theorem q_zero {x : Dy} : x.q = 0 ↔ x.z = 0 := by
  unfold Dy.q
  rw [Rat.mul_eq_zero]
  have := p2_pos x.e
  constructor
  · rintro (h | h)
    · simpa using h
    · rw [h] at this
      exact absurd this (by decide)
  · intro h
    left
    rw [h]
    rfl
theorem q_at {x : Dy} {m : Int} (h : m ≤ x.e) : x.q = ((x.z * 2 ^ (x.e - m).toNat : Int) : Rat) * p2 m := by
  have := q_down x.z x.e (x.e - m).toNat
  rw [show x.e - ((x.e - m).toNat : Int) = m by omega] at this
  exact this.symm
theorem rat_lt_iff {a b : Int} {m : Int} : (a : Rat) * p2 m < (b : Rat) * p2 m ↔ a < b := by
  rw [Rat.mul_lt_mul_right (p2_pos m), Rat.intCast_lt_intCast]
theorem rat_le_iff {a b : Int} {m : Int} : (a : Rat) * p2 m ≤ (b : Rat) * p2 m ↔ a ≤ b := by
  rw [← Rat.not_lt, ← Int.not_lt, rat_lt_iff]
theorem rat_eq_iff {a b : Int} {m : Int} : (a : Rat) * p2 m = (b : Rat) * p2 m ↔ a = b := by
  constructor
  · intro h
    have h1 : ¬ a < b := fun hc => by have := rat_lt_iff (m := m).2 hc; rw [h] at this; exact Rat.lt_irrefl this
    have h2 : ¬ b < a := fun hc => by have := rat_lt_iff (m := m).2 hc; rw [h] at this; exact Rat.lt_irrefl this
    omega
  · intro h; rw [h]
theorem Can.ext {x y : Dy} (hx : Can x) (hy : Can y) (h : x.q = y.q) : x = y := by
  have key : ∀ {x y : Dy}, Can x → Can y → x.q = y.q → x.e ≤ y.e → x = y := fun {x y} hx hy h he => by
    have h1 := h
    rw [q_at (x := x) (m := x.e) (Int.le_refl _), q_at (x := y) he, rat_eq_iff] at h1
    rw [Int.sub_self] at h1
    simp only [Int.toNat_zero, Int.pow_zero, Int.mul_one] at h1
    rcases hx with ⟨hz, he0⟩ | hx
    · have hyz : y.z = 0 := by rw [← q_zero, ← h, q_zero]; exact hz
      rcases hy with ⟨_, he1⟩ | hy
      · cases x; cases y; simp only at *; subst hz he0 hyz he1; rfl
      · omega
    · rcases hy with ⟨hyz, _⟩ | hy
      · rw [hyz, Int.zero_mul] at h1; omega
      · by_cases hc : x.e = y.e
        · cases x; cases y
          simp only at *
          subst hc
          rw [Int.sub_self] at h1
          simp only [Int.toNat_zero, Int.pow_zero, Int.mul_one] at h1
          rw [h1]
        · obtain ⟨k, hk⟩ : ∃ k, (y.e - x.e).toNat = k + 1 := ⟨(y.e - x.e).toNat - 1, by omega⟩
          rw [hk, Int.pow_succ, ← Int.mul_assoc] at h1
          omega
  by_cases hc : x.e ≤ y.e
  · exact key hx hy h hc
  · exact (key hy hx h.symm (by omega)).symm
/-! ### Sums, products, order -/
def dAdd (x y : Dy) : Dy := if x.z = 0 then nrm y.z y.e else if y.z = 0 then nrm x.z x.e else nrm (x.z * 2 ^ (x.e - min x.e y.e).toNat + y.z * 2 ^ (y.e - min x.e y.e).toNat) (min x.e y.e)
theorem rat_tri (a b : Rat) : a < b ∨ a = b ∨ b < a := by grind
def topD (x : Dy) : Int := if x.z = 0 then 0 else (bitsN x.z.natAbs : Int) + x.e
end Go.Proofs.YtgiejjpemhceiaaDoor
/-
  Dyads, plain: how great they are, bounds.
-/
namespace Go.Proofs.YtgiejjpemhceiaaDoor
set_option linter.unusedSimpArgs false

theorem bitsN_spec {n : Nat} (h : n ≠ 0) : ∃ b, bitsN n = b + 1 ∧ 2 ^ b ≤ n ∧ n < 2 ^ (b + 1) := by
  refine ⟨Nat.log2 n, by unfold bitsN; rw [if_neg h], ?_, ?_⟩
  · exact Nat.log2_self_le h
  · exact Nat.lt_log2_self
theorem bitsN_lt (n : Nat) : n < 2 ^ bitsN n := by
  by_cases h : n = 0
  · subst h; decide
  · obtain ⟨b, h1, h2, h3⟩ := bitsN_spec h
    rw [h1]; exact h3
theorem bitsN_le {n k : Nat} (h : n < 2 ^ k) : bitsN n ≤ k := by
  by_cases h0 : n = 0
  · subst h0; exact Nat.zero_le _
  · obtain ⟨b, h1, h2, h3⟩ := bitsN_spec h0
    rw [h1]
    apply Nat.lt_of_not_le
    intro hc
    have := Nat.pow_le_pow_right (n := 2) (by omega) hc
    omega
theorem bitsN_ge {n k : Nat} (h : 2 ^ k ≤ n) : k + 1 ≤ bitsN n := by
  have h1 := bitsN_lt n
  apply Nat.lt_of_not_le
  intro hc
  have := Nat.pow_le_pow_right (n := 2) (by omega) hc
  omega
theorem lowN_lt {n : Nat} (h : n ≠ 0) : lowN n < bitsN n := by
  obtain ⟨m, hm⟩ := lowN_spec h
  have h1 : 2 ^ lowN n ≤ n := by
    have h3 := Nat.mul_le_mul_left (2 ^ lowN n) (show 1 ≤ 2 * m + 1 by omega)
    omega
  exact bitsN_ge h1
theorem lowN_le_bits (n : Nat) : lowN n ≤ bitsN n := by
  by_cases h : n = 0
  · subst h; rw [lowN_zero]; exact Nat.zero_le _
  · exact Nat.le_of_lt (lowN_lt h)
theorem p2_mono {a b : Int} (h : a ≤ b) : p2 a ≤ p2 b := by
  have h1 := rat_le_iff (a := 1) (b := 2 ^ (b - a).toNat) (m := a)
  have h2 := q_down 1 b (b - a).toNat
  rw [show b - ((b - a).toNat : Int) = a by omega, Int.one_mul] at h2
  rw [h2] at h1
  have h3 := h1.2 (by have := Int.pow_pos (n := 2) (m := (b - a).toNat) (by decide); omega)
  simpa using h3
theorem top_spec {x : Dy} (h : x.z ≠ 0) : (0 < x.z → p2 (topD x - 1) ≤ x.q ∧ x.q < p2 (topD x)) ∧ (x.z < 0 → p2 (topD x - 1) ≤ -x.q ∧ -x.q < p2 (topD x)) := by
  obtain ⟨b, h1, h2, h3⟩ := bitsN_spec (n := x.z.natAbs) (by omega)
  have ht : topD x = (b : Int) + 1 + x.e := by unfold topD; rw [if_neg h, h1]; omega
  have e1 : p2 (topD x - 1) = ((2 ^ b : Int) : Rat) * p2 x.e := by
    rw [ht, show (b : Int) + 1 + x.e - 1 = (b : Int) + x.e by omega, p2_add, p2_nat]
  have e2 : p2 (topD x) = ((2 ^ (b + 1) : Int) : Rat) * p2 x.e := by
    rw [ht, show (b : Int) + 1 + x.e = ((b + 1 : Nat) : Int) + x.e by omega, p2_add, p2_nat]
  have c1 : ((2 ^ b : Nat) : Int) = (2 : Int) ^ b := by push_cast; rfl
  have c2 : ((2 ^ (b + 1) : Nat) : Int) = (2 : Int) ^ (b + 1) := by push_cast; rfl
  rw [e1, e2]
  have hn : -x.q = ((-x.z : Int) : Rat) * p2 x.e := by unfold Dy.q; rw [Rat.intCast_neg]; grind
  rw [hn]
  unfold Dy.q
  constructor
  · intro h0
    rw [rat_le_iff, rat_lt_iff, ← c1, ← c2]
    omega
  · intro h0
    rw [rat_le_iff, rat_lt_iff, ← c1, ← c2]
    omega
theorem q_pos {x : Dy} : 0 < x.q ↔ 0 < x.z := by
  have h := rat_lt_iff (a := 0) (b := x.z) (m := x.e)
  rw [show ((0 : Int) : Rat) * p2 x.e = 0 by simp] at h
  exact h
theorem q_neg {x : Dy} : x.q < 0 ↔ x.z < 0 := by
  have h := rat_lt_iff (a := x.z) (b := 0) (m := x.e)
  rw [show ((0 : Int) : Rat) * p2 x.e = 0 by simp] at h
  exact h
def alX (x y : Dy) : Int := x.z * 2 ^ (x.e - min x.e y.e).toNat
def alY (x y : Dy) : Int := y.z * 2 ^ (y.e - min x.e y.e).toNat
theorem dAdd_al {x y : Dy} (hx : x.z ≠ 0) (hy : y.z ≠ 0) : dAdd x y = nrm (alX x y + alY x y) (min x.e y.e) := by
  unfold dAdd alX alY
  rw [if_neg hx, if_neg hy]
theorem dAdd_x0 {x y : Dy} (hx : x.z = 0) : dAdd x y = nrm y.z y.e := by unfold dAdd; rw [if_pos hx]
theorem dAdd_y0 {x y : Dy} (hx : x.z ≠ 0) (hy : y.z = 0) : dAdd x y = nrm x.z x.e := by unfold dAdd; rw [if_neg hx, if_pos hy]

/-! ### Bounds -/
structure Bnd (N : Nat) (x : Dy) : Prop where
  z : x.z.natAbs < 2 ^ N
  lo : -(N : Int) ≤ x.e
  hi : x.e ≤ (N : Int)
theorem two_mono {a b : Nat} (h : a ≤ b) : 2 ^ a ≤ 2 ^ b := Nat.pow_le_pow_right (by omega) h
theorem Bnd.mono {N M : Nat} {x : Dy} (h : Bnd N x) (hn : N ≤ M) : Bnd M x := ⟨Nat.lt_of_lt_of_le h.z (two_mono hn), by have := h.lo; omega, by have := h.hi; omega⟩
theorem bnd_nrm {K M N : Nat} {z e : Int} (hz : z.natAbs < 2 ^ K) (h1 : -(M : Int) ≤ e) (h2 : e ≤ (M : Int)) (hN : K + M ≤ N) : Bnd N (nrm z e) := by
  by_cases h : z = 0
  · subst h
    exact ⟨by rw [nrm_zero]; exact Nat.pow_pos (by omega), by rw [nrm_zero]; show -(N : Int) ≤ 0; omega, by rw [nrm_zero]; show (0 : Int) ≤ N; omega⟩
  · rw [nrm_nz e h]
    have h3 := lowN_lt (n := z.natAbs) (by omega)
    have h4 := bitsN_le hz
    refine ⟨?_, ?_, ?_⟩
    · show (sg _ _).natAbs < _
      rw [sg_abs]
      exact Nat.lt_of_le_of_lt (Nat.div_le_self _ _) (Nat.lt_of_lt_of_le hz (two_mono (by omega)))
    · show _ ≤ e + _
      omega
    · show e + _ ≤ _
      omega
theorem abs_shl_lt {z : Int} {N k : Nat} (h : z.natAbs < 2 ^ N) : (z * 2 ^ k).natAbs < 2 ^ (N + k) := by
  rw [Int.natAbs_mul, Int.natAbs_pow, Nat.pow_add]
  exact Nat.mul_lt_mul_of_pos_right h (Nat.pow_pos (by decide))
theorem abs_add_lt {a b : Int} {N : Nat} (ha : a.natAbs < 2 ^ N) (hb : b.natAbs < 2 ^ N) : (a + b).natAbs < 2 ^ (N + 1) := by rw [Nat.pow_succ]; omega
theorem Bnd.norm {N M : Nat} {x : Dy} (h : Bnd N x) (hM : 2 * N ≤ M) : Bnd M (nrm x.z x.e) := bnd_nrm h.z h.lo h.hi (by omega)
theorem Bnd.alX {N : Nat} {x y : Dy} (h : Bnd N x) (h' : Bnd N y) : (alX x y).natAbs < 2 ^ (3 * N) := by
  have h1 := abs_shl_lt (k := (x.e - min x.e y.e).toNat) h.z
  have := h.lo; have := h.hi; have := h'.lo; have := h'.hi
  exact Nat.lt_of_lt_of_le h1 (two_mono (by omega))
theorem Bnd.alY {N : Nat} {x y : Dy} (h : Bnd N x) (h' : Bnd N y) : (alY x y).natAbs < 2 ^ (3 * N) := by
  have h1 := abs_shl_lt (k := (y.e - min x.e y.e).toNat) h'.z
  have := h.lo; have := h.hi; have := h'.lo; have := h'.hi
  exact Nat.lt_of_lt_of_le h1 (two_mono (by omega))
theorem Bnd.add {N M : Nat} {x y : Dy} (h : Bnd N x) (h' : Bnd N y) (hM : 4 * N + 1 ≤ M) : Bnd M (dAdd x y) := by
  by_cases hx : x.z = 0
  · rw [dAdd_x0 hx]; exact h'.norm (by omega)
  · by_cases hy : y.z = 0
    · rw [dAdd_y0 hx hy]; exact h.norm (by omega)
    · rw [dAdd_al hx hy]
      have := h.lo; have := h.hi; have := h'.lo; have := h'.hi
      exact bnd_nrm (K := 3 * N + 1) (M := N) (abs_add_lt (h.alX h') (h.alY h')) (by omega) (by omega) (by omega)
theorem bb_two_pow (n : Nat) : BB ^ n = 2 ^ (64 * n) := by rw [BB_pow, ← Nat.pow_mul]
theorem few_two_pow {n N : Nat} (h : n < 2 ^ N) (hN : N ≤ 60000000) : Few n := by
  unfold Few
  rw [bb_two_pow]
  exact Nat.lt_of_lt_of_le h (two_mono (by rw [MX_val]; omega))
end Go.Proofs.YtgiejjpemhceiaaDoor
/-
  Dyads, plain: rounding to so many bits.
-/
namespace Go.Proofs.YtgiejjpemhceiaaDoor
set_option linter.unusedSimpArgs false

def Short (P : Nat) (s : Dy) : Prop := s.z.natAbs < 2 ^ P
theorem short_bits {P : Nat} {s : Dy} : Short P s ↔ bitsN s.z.natAbs ≤ P := by
  unfold Short
  constructor
  · exact bitsN_le
  · intro h
    exact Nat.lt_of_lt_of_le (bitsN_lt _) (two_mono h)
structure Rd (P : Nat) (up : Bool) (le ge : Rat → Prop) (r : Dy) : Prop where
  can : Can r
  short : Short P r
  dn : up = false → le r.q ∧ ∀ s, Short P s → le s.q → s.q ≤ r.q
  upw : up = true → ge r.q ∧ ∀ s, Short P s → ge s.q → r.q ≤ s.q
theorem Rd.congr {P : Nat} {up : Bool} {le ge le' ge' : Rat → Prop} {r : Dy} (h : Rd P up le ge r) (h1 : ∀ s, Short P s → (le s.q ↔ le' s.q)) (h2 : ∀ s, Short P s → (ge s.q ↔ ge' s.q)) : Rd P up le' ge' r :=
  ⟨h.can, h.short, fun hu => ⟨(h1 _ h.short).1 (h.dn hu).1, fun s hs hl => (h.dn hu).2 s hs ((h1 s hs).2 hl)⟩, fun hu => ⟨(h2 _ h.short).1 (h.upw hu).1, fun s hs hl => (h.upw hu).2 s hs ((h2 s hs).2 hl)⟩⟩
theorem rat_le_antisymm {a b : Rat} (h : a ≤ b) (h' : b ≤ a) : a = b := by grind
theorem Rd.unique {P : Nat} {up : Bool} {le ge : Rat → Prop} {r r' : Dy} (h : Rd P up le ge r) (h' : Rd P up le ge r') : r = r' := by
  apply Can.ext h.can h'.can
  cases up
  · exact rat_le_antisymm ((h'.dn rfl).2 r h.short (h.dn rfl).1) ((h.dn rfl).2 r' h'.short (h'.dn rfl).1)
  · exact rat_le_antisymm ((h.upw rfl).2 r' h'.short (h'.upw rfl).1) ((h'.upw rfl).2 r h.short (h.upw rfl).1)
theorem gap_none {P m : Nat} {E : Int} (hP : 1 ≤ P) (hm : 2 ^ (P - 1) ≤ m) {s : Dy} (hs : Short P s) (h1 : ((m : Int) : Rat) * p2 E < s.q) (h2 : s.q < (((m : Int) + 1 : Int) : Rat) * p2 E) : False := by
  by_cases he : E ≤ s.e
  · rw [q_at he] at h1 h2
    rw [rat_lt_iff] at h1 h2
    omega
  · have e1 := q_down (m : Int) E (E - s.e).toNat
    rw [show E - ((E - s.e).toNat : Int) = s.e by omega] at e1
    rw [← e1] at h1
    unfold Dy.q at h1
    rw [rat_lt_iff] at h1
    obtain ⟨k, hk⟩ : ∃ k, (E - s.e).toNat = k + 1 := ⟨(E - s.e).toNat - 1, by omega⟩
    rw [hk] at h1
    have h3 : s.z.natAbs < 2 ^ P := hs
    have h4 : 2 ^ P = 2 ^ (P - 1) * 2 := by rw [← Nat.pow_succ]; congr 1; omega
    have h5 : (m : Int) * 2 ^ (k + 1) = ((m * 2 ^ k * 2 : Nat) : Int) := by push_cast; rw [Int.pow_succ, Int.mul_assoc]
    have h6 : m * 1 ≤ m * 2 ^ k := Nat.mul_le_mul_left _ (Nat.pow_pos (by omega))
    rw [h5] at h1
    omega
theorem gap_le {P m : Nat} {E : Int} (hP : 1 ≤ P) (hm : 2 ^ (P - 1) ≤ m) {s : Dy} (hs : Short P s) (h2 : s.q < (((m : Int) + 1 : Int) : Rat) * p2 E) : s.q ≤ ((m : Int) : Rat) * p2 E := by
  have := fun h1 => gap_none hP hm hs h1 h2
  grind
theorem gap_ge {P m : Nat} {E : Int} (hP : 1 ≤ P) (hm : 2 ^ (P - 1) ≤ m) {s : Dy} (hs : Short P s) (h1 : ((m : Int) : Rat) * p2 E < s.q) : (((m : Int) + 1 : Int) : Rat) * p2 E ≤ s.q := by
  have := fun h2 => gap_none hP hm hs h1 h2
  grind
def Dy.opp (s : Dy) : Dy := ⟨-s.z, s.e⟩
theorem opp_q (s : Dy) : s.opp.q = -s.q := by
  unfold Dy.opp Dy.q
  rw [Rat.intCast_neg]
  grind
theorem opp_short {P : Nat} {s : Dy} (h : Short P s) : Short P s.opp := by
  unfold Short Dy.opp at *
  rw [Int.natAbs_neg]; exact h

def widthP (p : Int) : Nat := (max 1 (min p 65536)).toNat
theorem widthP_range (p : Int) : 1 ≤ widthP p ∧ widthP p ≤ 65536 := by unfold widthP; omega
def rndD (P : Nat) (up : Bool) (x : Dy) : Dy :=
  if bitsN (nrm x.z x.e).z.natAbs ≤ P then nrm x.z x.e
  else nrm (sg (decide ((nrm x.z x.e).z < 0)) ((nrm x.z x.e).z.natAbs / 2 ^ (bitsN (nrm x.z x.e).z.natAbs - P) + if decide ((nrm x.z x.e).z < 0) != up then 1 else 0)) ((nrm x.z x.e).e + ((bitsN (nrm x.z x.e).z.natAbs - P : Nat) : Int))
theorem nrm_short {P : Nat} (s : Bool) (m : Nat) (E : Int) (hP : 1 ≤ P) (hm : m ≤ 2 ^ P) : Short P (nrm (sg s m) E) := by
  unfold Short
  by_cases h0 : m = 0
  · subst h0
    rw [sg_zero, nrm_zero]
    exact Nat.pow_pos (by omega)
  · have hz : sg s m ≠ 0 := by cases s <;> simp only [sg_true, sg_false] <;> omega
    rw [nrm_nz E hz]
    show (sg _ _).natAbs < _
    rw [sg_abs, sg_abs]
    by_cases h1 : m = 2 ^ P
    · have : lowN m = P := by
        rw [h1]
        have := lowN_is P 0
        simpa using this
      rw [this, h1, Nat.div_self (Nat.pow_pos (by omega))]
      have := two_mono hP
      omega
    · exact Nat.lt_of_le_of_lt (Nat.div_le_self _ _) (by omega)
theorem cut_odd {z : Nat} {P : Nat} (hP : 1 ≤ P) (hz : z % 2 = 1) (hb : P < bitsN z) : 2 ^ (P - 1) ≤ z / 2 ^ (bitsN z - P) ∧ z / 2 ^ (bitsN z - P) < 2 ^ P ∧ z / 2 ^ (bitsN z - P) * 2 ^ (bitsN z - P) < z ∧ z < (z / 2 ^ (bitsN z - P) + 1) * 2 ^ (bitsN z - P) := by
  obtain ⟨b, h1, h2, h3⟩ := bitsN_spec (n := z) (by omega)
  rw [h1]
  obtain ⟨n, hn⟩ : ∃ n, b + 1 - P = n + 1 := ⟨b - P, by omega⟩
  rw [hn]
  have hp : 0 < 2 ^ (n + 1) := Nat.pow_pos (by omega)
  have h4 := Nat.div_add_mod z (2 ^ (n + 1))
  have h5 := Nat.mod_lt z hp
  refine ⟨?_, ?_, ?_, ?_⟩
  · rw [Nat.le_div_iff_mul_le hp, ← Nat.pow_add]
    rw [show P - 1 + (n + 1) = b by omega]
    exact h2
  · rw [Nat.div_lt_iff_lt_mul hp, ← Nat.pow_add, show P + (n + 1) = b + 1 by omega]
    exact h3
  · rw [Nat.mul_comm]
    have h6 : z % 2 ^ (n + 1) ≠ 0 := by
      intro hc
      have h7 : z = 2 * (2 ^ n * (z / 2 ^ (n + 1))) := by
        rw [hc, Nat.add_zero] at h4
        rw [← Nat.mul_assoc, Nat.mul_comm 2 (2 ^ n), ← Nat.pow_succ]
        exact h4.symm
      omega
    omega
  · rw [Nat.add_mul, Nat.one_mul, Nat.mul_comm]
    omega
theorem sg_q (s : Bool) (m : Nat) (E : Int) : ((sg s m : Int) : Rat) * p2 E = if s then -(((m : Int) : Rat) * p2 E) else ((m : Int) : Rat) * p2 E := by
  cases s
  · rw [sg_false]; rfl
  · rw [sg_true, Rat.intCast_neg]; simp; grind
theorem rnd_rd (P : Nat) (up : Bool) (x : Dy) (hP : 1 ≤ P) : Rd P up (· ≤ x.q) (x.q ≤ ·) (rndD P up x) := by
  unfold rndD
  have hq := nrm_q x.z x.e
  have hc := nrm_can x.z x.e
  have hq' : (nrm x.z x.e).q = x.q := hq
  clear hq
  generalize nrm x.z x.e = y at *
  by_cases hb : bitsN y.z.natAbs ≤ P
  · rw [if_pos hb, ← hq']
    exact ⟨hc, short_bits.2 hb, fun _ => ⟨Rat.le_refl, fun s _ h => h⟩, fun _ => ⟨Rat.le_refl, fun s _ h => h⟩⟩
  · rw [if_neg hb]
    have hodd : y.z % 2 = 1 := by
      rcases hc with ⟨h1, _⟩ | h1
      · exfalso; apply hb; rw [h1]; show bitsN 0 ≤ P; unfold bitsN; simp
      · exact h1
    obtain ⟨c1, c2, c3, c4⟩ := cut_odd (z := y.z.natAbs) hP (by omega) (by omega)
    have hn : y.z.natAbs = y.z.natAbs := rfl
    generalize hN : bitsN y.z.natAbs - P = n at *
    generalize hM : y.z.natAbs / 2 ^ n = m at *
    -- the amount lies between m and m + 1 at the exponent
    have e1 : ((y.z.natAbs : Int) : Rat) * p2 y.e = ((y.z.natAbs : Int) : Rat) * p2 y.e := rfl
    have d1 := q_down (m : Int) (y.e + (n : Int)) n
    have d2 := q_down ((m : Int) + 1) (y.e + (n : Int)) n
    rw [show y.e + (n : Int) - (n : Int) = y.e by omega] at d1 d2
    have l1 : ((m : Int) : Rat) * p2 (y.e + (n : Int)) < ((y.z.natAbs : Int) : Rat) * p2 y.e := by
      rw [← d1, rat_lt_iff]
      have : ((m * 2 ^ n : Nat) : Int) = (m : Int) * 2 ^ n := by push_cast; rfl
      omega
    have l2 : ((y.z.natAbs : Int) : Rat) * p2 y.e < (((m : Int) + 1 : Int) : Rat) * p2 (y.e + (n : Int)) := by
      rw [← d2, rat_lt_iff]
      have : (((m + 1) * 2 ^ n : Nat) : Int) = ((m : Int) + 1) * 2 ^ n := by push_cast; rfl
      omega
    have hyq : y.q = if decide (y.z < 0) then -(((y.z.natAbs : Int) : Rat) * p2 y.e) else ((y.z.natAbs : Int) : Rat) * p2 y.e := by
      rw [← sg_q, sg_self]; rfl
    clear d1 d2 e1 hn hN hM c3 c4 hb hodd hc
    generalize y.e + (n : Int) = E at *
    generalize ((y.z.natAbs : Int) : Rat) * p2 y.e = T at *
    generalize decide (y.z < 0) = s at *
    rw [← hq']
    have hgl : ∀ s, Short P s → s.q < (((m : Int) + 1 : Int) : Rat) * p2 E → s.q ≤ ((m : Int) : Rat) * p2 E := fun s hs h => gap_le hP c1 hs h
    have hgg : ∀ s, Short P s → ((m : Int) : Rat) * p2 E < s.q → (((m : Int) + 1 : Int) : Rat) * p2 E ≤ s.q := fun s hs h => gap_ge hP c1 hs h
    have hc1 : ((m + 1 : Nat) : Int) = (m : Int) + 1 := by push_cast; rfl
    refine ⟨nrm_can _ _, nrm_short _ _ _ hP (by split <;> omega), fun hu => ?_, fun hu => ?_⟩
    · subst hu
      rw [nrm_q, sg_q]
      cases s
      · simp only [bne_self_eq_false, Bool.false_eq_true, if_false, Nat.add_zero] at hyq ⊢
        rw [hyq]
        exact ⟨by grind, fun s' hs' hl => hgl s' hs' (by grind)⟩
      · simp only [Bool.bne_false, if_true] at hyq ⊢
        rw [hyq, hc1]
        refine ⟨by grind, fun s' hs' hl => ?_⟩
        have h1 := hgg _ (opp_short hs') (by rw [opp_q]; grind)
        rw [opp_q] at h1
        grind
    · subst hu
      rw [nrm_q, sg_q]
      cases s
      · simp only [Bool.bne_true, Bool.not_false, if_true, Bool.false_eq_true, if_false] at hyq ⊢
        rw [hyq, hc1]
        exact ⟨by grind, fun s' hs' hl => hgg s' hs' (by grind)⟩
      · simp only [bne_self_eq_false, Bool.false_eq_true, if_false, if_true, Nat.add_zero] at hyq ⊢
        rw [hyq]
        refine ⟨by grind, fun s' hs' hl => ?_⟩
        have h1 := hgl _ (opp_short hs') (by rw [opp_q]; grind)
        rw [opp_q] at h1
        grind
end Go.Proofs.YtgiejjpemhceiaaDoor
/-
  Dyads, plain: quotients and roots, rounded.
-/
namespace Go.Proofs.YtgiejjpemhceiaaDoor
set_option linter.unusedSimpArgs false

/-! ### Quotients -/
theorem abs_q (x : Dy) : ((x.z.natAbs : Int) : Rat) * p2 x.e = if decide (x.z < 0) then -x.q else x.q := by
  have h : x.q = if decide (x.z < 0) then -(((x.z.natAbs : Int) : Rat) * p2 x.e) else ((x.z.natAbs : Int) : Rat) * p2 x.e := by rw [← sg_q, sg_self]; rfl
  rw [h]
  cases decide (x.z < 0) <;> simp
  all_goals grind
end Go.Proofs.YtgiejjpemhceiaaDoor
/-
  Dyads, plain: roots, rounded; bounds of what is rounded.
-/
namespace Go.Proofs.YtgiejjpemhceiaaDoor
set_option linter.unusedSimpArgs false

/-! ### Bounds -/
theorem rnd_bnd {P N M : Nat} {up : Bool} {x : Dy} (h : Bnd N x) (hM : 3 * N + P + 1 ≤ M) : Bnd M (rndD P up x) := by
  unfold rndD
  have hz : (nrm x.z x.e).z.natAbs < 2 ^ N ∧ -(N : Int) ≤ (nrm x.z x.e).e ∧ (nrm x.z x.e).e ≤ 2 * (N : Int) := by
    by_cases h0 : x.z = 0
    · rw [h0, nrm_zero]
      exact ⟨Nat.pow_pos (by omega), by show -(N : Int) ≤ 0; omega, by show (0 : Int) ≤ 2 * N; omega⟩
    · rw [nrm_nz x.e h0]
      have h3 := lowN_lt (n := x.z.natAbs) (by omega)
      have h4 := bitsN_le h.z
      have := h.lo; have := h.hi
      refine ⟨?_, ?_, ?_⟩
      · show (sg _ _).natAbs < _
        rw [sg_abs]
        exact Nat.lt_of_le_of_lt (Nat.div_le_self _ _) h.z
      · show _ ≤ x.e + _; omega
      · show x.e + _ ≤ _; omega
  generalize nrm x.z x.e = y at *
  obtain ⟨z1, z2, z3⟩ := hz
  have hb := bitsN_le z1
  split
  · exact ⟨Nat.lt_of_lt_of_le z1 (two_mono (by omega)), by omega, by omega⟩
  · have hm : y.z.natAbs / 2 ^ (bitsN y.z.natAbs - P) < 2 ^ P := by
      rw [Nat.div_lt_iff_lt_mul (Nat.pow_pos (by omega)), ← Nat.pow_add]
      exact Nat.lt_of_lt_of_le (bitsN_lt _) (two_mono (by omega))
    refine bnd_nrm (K := P + 1) (M := 3 * N) ?_ (by omega) (by omega) (by omega)
    have hpp : 0 < 2 ^ P := Nat.pow_pos (by omega)
    rw [sg_abs, Nat.pow_succ]
    split <;> omega
end Go.Proofs.YtgiejjpemhceiaaDoor
/-
  Dyads, plain: what has few enough bits is not rounded.
-/
namespace Go.Proofs.YtgiejjpemhceiaaDoor
set_option linter.unusedSimpArgs false

theorem Rd.exact {P : Nat} {up : Bool} {t : Rat} {r s : Dy} (h : Rd P up (· ≤ t) (t ≤ ·) r) (hs : Short P s) (he : s.q = t) : r.q = t := by
  cases up
  · obtain ⟨h1, h2⟩ := h.dn rfl
    have := h2 s hs (by rw [he]; exact Rat.le_refl)
    exact rat_le_antisymm h1 (by rw [← he]; exact this)
  · obtain ⟨h1, h2⟩ := h.upw rfl
    have := h2 s hs (by rw [he]; exact Rat.le_refl)
    exact rat_le_antisymm (by rw [← he]; exact this) h1
end Go.Proofs.YtgiejjpemhceiaaDoor
