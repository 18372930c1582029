/-
  Dyads, plain: roots, rounded; bounds of what is rounded.
-/
import Derived.Test.YtcknigodcjjahaaDoorDyS
namespace Go.Proofs.YtcknigodcjjahaaDoor
set_option linter.unusedSimpArgs false

def sqX (x : Dy) : Nat := if x.e % 2 = 1 then x.z.natAbs * 2 else x.z.natAbs
def sqE (x : Dy) : Int := if x.e % 2 = 1 then x.e - 1 else x.e
def sqN (P X : Nat) : Int := (2 * ((P : Int) + 2) - (bitsN X : Int)) + (2 * ((P : Int) + 2) - (bitsN X : Int)) % 2
def sqM (P X : Nat) : Bool := cutB X (sqN P X) || decide (0 < shN X (sqN P X) - rootN (shN X (sqN P X)) * rootN (shN X (sqN P X)))
def sqrtD (P : Nat) (up : Bool) (x : Dy) : Dy := betD P up false (rootN (shN (sqX x) (sqN P (sqX x)))) ((sqE x - sqN P (sqX x)) / 2) (sqM P (sqX x))
theorem sqX_q {x : Dy} (h : 0 < x.z) : x.q = ((sqX x : Int) : Rat) * p2 (sqE x) ∧ sqX x ≠ 0 ∧ sqE x % 2 = 0 := by
  unfold sqX sqE
  by_cases h1 : x.e % 2 = 1
  · rw [if_pos h1, if_pos h1]
    have d := q_down x.z x.e 1
    have e : (((x.z.natAbs * 2 : Nat) : Int) : Rat) = ((x.z * 2 ^ 1 : Int) : Rat) := by congr 1; push_cast; omega
    refine ⟨?_, by omega, by omega⟩
    rw [e]
    exact d.symm
  · rw [if_neg h1, if_neg h1]
    have e : ((x.z.natAbs : Int) : Rat) = (x.z : Rat) := by congr 1; omega
    refine ⟨?_, by omega, by omega⟩
    rw [e]; rfl
theorem sqrt_rd {P : Nat} {up : Bool} {x : Dy} (hP : 1 ≤ P) (hx : 0 < x.z) : Rd P up (leRt x.q) (geRt x.q) (sqrtD P up x) := by
  obtain ⟨a1, a2, a3⟩ := sqX_q hx
  unfold sqrtD
  rw [a1]
  have hM : sqM P (sqX x) = (cutB (sqX x) (sqN P (sqX x)) || decide (0 < shN (sqX x) (sqN P (sqX x)) - rootN (shN (sqX x) (sqN P (sqX x))) * rootN (shN (sqX x) (sqN P (sqX x))))) := rfl
  have hn2 : sqN P (sqX x) % 2 = 0 := by unfold sqN; omega
  obtain ⟨f, f0, f1, f2, f3⟩ := sh_spec a2 (sqN P (sqX x))
  obtain ⟨bx, x1, x2, x3⟩ := bitsN_spec a2
  have hbig := sh_big (n := sqN P (sqX x)) x2 (by unfold sqN; omega)
  have hbig2 : 2 ^ (P - 1 + (P - 1)) ≤ shN (sqX x) (sqN P (sqX x)) := Nat.le_trans (two_mono (by unfold sqN; omega)) hbig
  clear hbig x1 x2 x3
  generalize sqX x = X at *
  generalize sqE x = e0 at *
  rw [hM]
  generalize sqN P X = n at *
  generalize shN X n = Y at *
  generalize cutB X n = cb at *
  have g := f3 (e0 - n)
  rw [show e0 - n + n = e0 by omega] at g
  have hr := rootN_is Y
  obtain ⟨r1, r2⟩ := hr
  generalize rootN Y = r at *
  obtain ⟨H, hH⟩ : ∃ H, (e0 - n) / 2 = H := ⟨_, rfl⟩
  have hEH : e0 - n = H + H := by omega
  rw [hH]
  rw [hEH, p2_add] at g
  have hp := p2_pos H
  have hr1 : (((r : Int) : Rat) * ((r : Int) : Rat)) ≤ ((Y : Int) : Rat) := by
    rw [← Rat.intCast_mul, Rat.intCast_le_intCast]
    have : ((r * r : Nat) : Int) = (r : Int) * (r : Int) := by push_cast; rfl
    omega
  have hr2 : ((Y : Int) : Rat) + 1 ≤ ((((r : Int) + 1 : Int) : Rat) * (((r : Int) + 1 : Int) : Rat)) := by
    rw [← Rat.intCast_mul]
    have e1 : ((Y : Int) : Rat) + 1 = (((Y : Int) + 1 : Int) : Rat) := by rw [Rat.intCast_add]; rfl
    rw [e1, Rat.intCast_le_intCast]
    have : (((r + 1) * (r + 1) : Nat) : Int) = ((r : Int) + 1) * ((r : Int) + 1) := by push_cast; rfl
    omega
  have hlt : (((r : Int) : Rat) * ((r : Int) : Rat)) < ((Y : Int) : Rat) ↔ 0 < Y - r * r := by
    rw [← Rat.intCast_mul, Rat.intCast_lt_intCast]
    have : ((r * r : Nat) : Int) = (r : Int) * (r : Int) := by push_cast; rfl
    omega
  have hq : 2 ^ (P - 1) ≤ r := by
    apply Nat.le_of_not_lt
    intro hc
    have := Nat.mul_le_mul (show r + 1 ≤ 2 ^ (P - 1) by omega) (show r + 1 ≤ 2 ^ (P - 1) by omega)
    rw [← Nat.pow_add] at this
    omega
  clear hEH hH r1 r2 hbig2 f3 hn2 hM a1 a2 a3
  have hd2 : 0 < p2 H * p2 H := Rat.mul_pos hp hp
  refine bet_rt hP (fun hm => ?_) (fun hm => ?_) (fun _ => hq)
  · rw [g]
    have hpos : (((r : Int) : Rat) * ((r : Int) : Rat)) < ((Y : Int) : Rat) + f := by
      rw [Bool.or_eq_true] at hm
      rcases hm with h | h
      · have := f2.1 h; grind
      · have := hlt.2 (of_decide_eq_true h); grind
    have hup : ((Y : Int) : Rat) + f < ((((r : Int) + 1 : Int) : Rat) * (((r : Int) + 1 : Int) : Rat)) := by grind
    have k1 := (Rat.mul_lt_mul_right hd2).2 hpos
    have k2 := (Rat.mul_lt_mul_right hd2).2 hup
    generalize ((r : Int) : Rat) = a at *
    generalize (((r : Int) + 1 : Int) : Rat) = b at *
    generalize ((Y : Int) : Rat) = y at *
    generalize p2 H = d at *
    constructor <;> grind
  · rw [g]
    simp only [Bool.or_eq_false_iff, decide_eq_false_iff_not] at hm
    have e1 : f = 0 := by
      have : ¬ 0 < f := fun h => by have := f2.2 h; rw [hm.1] at this; cases this
      grind
    have e2 : (((r : Int) : Rat) * ((r : Int) : Rat)) = ((Y : Int) : Rat) := by
      have := fun h => hm.2 (hlt.1 h); grind
    rw [e1, ← e2]
    grind
/-! ### Bounds -/
theorem rnd_bnd {P N M : Nat} {up : Bool} {x : Dy} (h : Bnd N x) (hM : 3 * N + P + 1 ≤ M) : Bnd M (rndD P up x) := by
  unfold rndD
  have hz : (nrm x.z x.e).z.natAbs < 2 ^ N ∧ -(N : Int) ≤ (nrm x.z x.e).e ∧ (nrm x.z x.e).e ≤ 2 * (N : Int) := by
    by_cases h0 : x.z = 0
    · rw [h0, nrm_zero]
      exact ⟨Nat.pow_pos (by omega), by show -(N : Int) ≤ 0; omega, by show (0 : Int) ≤ 2 * N; omega⟩
    · rw [nrm_nz x.e h0]
      have h3 := lowN_lt (n := x.z.natAbs) (by omega)
      have h4 := bitsN_le h.z
      have := h.lo; have := h.hi
      refine ⟨?_, ?_, ?_⟩
      · show (sg _ _).natAbs < _
        rw [sg_abs]
        exact Nat.lt_of_le_of_lt (Nat.div_le_self _ _) h.z
      · show _ ≤ x.e + _; omega
      · show x.e + _ ≤ _; omega
  generalize nrm x.z x.e = y at *
  obtain ⟨z1, z2, z3⟩ := hz
  have hb := bitsN_le z1
  split
  · exact ⟨Nat.lt_of_lt_of_le z1 (two_mono (by omega)), by omega, by omega⟩
  · have hm : y.z.natAbs / 2 ^ (bitsN y.z.natAbs - P) < 2 ^ P := by
      rw [Nat.div_lt_iff_lt_mul (Nat.pow_pos (by omega)), ← Nat.pow_add]
      exact Nat.lt_of_lt_of_le (bitsN_lt _) (two_mono (by omega))
    refine bnd_nrm (K := P + 1) (M := 3 * N) ?_ (by omega) (by omega) (by omega)
    have hpp : 0 < 2 ^ P := Nat.pow_pos (by omega)
    rw [sg_abs, Nat.pow_succ]
    split <;> omega
theorem bet_bnd {P K L M : Nat} {up neg more : Bool} {q : Nat} {E : Int} (hq : q < 2 ^ K) (h1 : -(L : Int) ≤ E) (h2 : E ≤ (L : Int)) (hM : 3 * (K + L + 2) + P + 1 ≤ M) : Bnd M (betD P up neg q E more) := by
  unfold betD
  refine rnd_bnd (N := K + L + 2) (bnd_nrm (K := K + 1) (M := L + 1) ?_ ?_ ?_ (by omega)) hM
  · rw [sg_abs, Nat.pow_succ]; split <;> omega
  · split <;> omega
  · split <;> omega
theorem sh_lt {x N K : Nat} {n : Int} (hx : x < 2 ^ N) (hK : (N : Int) + n ≤ (K : Int)) (hN : N ≤ K) : shN x n < 2 ^ K := by
  unfold shN
  split
  · refine Nat.lt_of_lt_of_le (Nat.mul_lt_mul_of_pos_right hx (Nat.pow_pos (by omega))) ?_
    rw [← Nat.pow_add]
    exact two_mono (by omega)
  · exact Nat.lt_of_le_of_lt (Nat.div_le_self _ _) (Nat.lt_of_lt_of_le hx (two_mono hN))
theorem quo_bnd {P N M : Nat} {up : Bool} {x y : Dy} (hx : Bnd N x) (hy : Bnd N y) (hM : 15 * N + 7 * P + 19 ≤ M) : Bnd M (quoD P up x y) := by
  have b1 := bitsN_le hx.z
  have b2 := bitsN_le hy.z
  have := hx.lo; have := hx.hi; have := hy.lo; have := hy.hi
  unfold quoD
  refine bet_bnd (K := 2 * N + P + 2) (L := 3 * N + P + 2) (Nat.lt_of_le_of_lt (Nat.div_le_self _ _) (sh_lt (N := N) hx.z ?_ (by omega))) ?_ ?_ (by omega)
  · unfold quoS; omega
  · unfold quoS; omega
  · unfold quoS; omega
theorem rootN_le (a : Nat) : rootN a ≤ a := by
  obtain ⟨h1, _⟩ := rootN_is a
  by_cases h : rootN a = 0
  · omega
  · have := Nat.mul_le_mul_left (rootN a) (show 1 ≤ rootN a by omega)
    omega
theorem sqX_lt {N : Nat} {x : Dy} (hx : Bnd N x) : sqX x < 2 ^ (N + 1) := by
  have := hx.z
  unfold sqX
  rw [Nat.pow_succ]
  split <;> omega
theorem sqN_range {P N : Nat} {x : Dy} (hx : Bnd N x) : -(N : Int) - 1 ≤ sqN P (sqX x) ∧ sqN P (sqX x) ≤ 2 * (P : Int) + 5 := by
  have b1 := bitsN_le (sqX_lt hx)
  unfold sqN
  omega
theorem sqrt_bnd {P N M : Nat} {up : Bool} {x : Dy} (hx : Bnd N x) (hM : 9 * N + 16 * P + 60 ≤ M) : Bnd M (sqrtD P up x) := by
  have b1 := sqX_lt hx
  have b2 := sqN_range (P := P) hx
  have := hx.lo; have := hx.hi
  have he : -(N : Int) - 1 ≤ sqE x ∧ sqE x ≤ N := by unfold sqE; split <;> omega
  unfold sqrtD
  refine bet_bnd (K := N + 1 + (2 * P + 5)) (L := N + P + 4) (Nat.lt_of_le_of_lt (rootN_le _) (sh_lt (N := N + 1) b1 (by omega) (by omega))) ?_ ?_ (by omega)
  · omega
  · omega
end Go.Proofs.YtcknigodcjjahaaDoor
