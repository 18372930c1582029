/-
  GuessShared, plain: a float64 doubled over and over, a step down below and a step up above each time.
-/
import Derived.Test.YtmjnifjohfljaaaTaGpG
import Derived.Test.YtmjnifjohfljaaaTaFlS
namespace Go.Proofs.Ytmjnifjohfljaaa
set_option linter.unusedSimpArgs false
open Go.RowKit
namespace Fl

theorem NR_dbl {r : Nat} (h : 4503599627370496 ≤ r) : NR (r + 4503599627370496) = 2 * NR r := by
  unfold NR
  rw [if_neg (by omega), if_neg (by omega), show (r + 4503599627370496) % 4503599627370496 = r % 4503599627370496 by omega, show (r + 4503599627370496) / 4503599627370496 - 1 = (r / 4503599627370496 - 1) + 1 by omega, Nat.pow_succ]
  rw [← Nat.mul_assoc, Nat.mul_comm _ 2]
theorem NR_pos {r : Nat} (h : 4503599627370496 ≤ r) : 0 < NR r := by
  unfold NR
  rw [if_neg (by omega)]
  exact Nat.mul_pos (by omega) (Nat.pow_pos (by omega))
/-- Doubling is exact. -/
theorem dbl_word {r : Nat} (h1 : 4503599627370496 ≤ r) (h2 : r + 4503599627370496 < INF) : floatBits .add .f64 r r = some (r + 4503599627370496) := by
  obtain ⟨m, k, e1, e2⟩ := read_fin false (r := r) (by omega)
  have hm : 0 < m := by
    have := NR_pos h1
    rw [← e2] at this
    exact Nat.pos_of_mul_pos_right this
  have ew : wordB false r = r := rfl
  rw [ew] at e1
  have hbits : floatBits .add .f64 r r = some (Ieee.double.nearest false (2 * m) (-1074 + (k : Int))) := by
    show Ieee.double.add r r = _
    unfold Ieee.Format.add
    rw [e1]
    unfold Ieee.Datum.sum
    have e3 : ((-1074 + (k : Int)) - (-1074 + (k : Int))).toNat = 0 := by omega
    have e4 : min (-1074 + (k : Int)) (-1074 + (k : Int)) = -1074 + (k : Int) := by omega
    simp only [signed_sg, e4, e3, Option.map_some, write_num, Nat.pow_zero, Nat.mul_one]
    have e5 : sg false m + sg false m = ((2 * m : Nat) : Int) := by simp [sg]; omega
    have e6 : ¬ ((2 * m : Nat) : Int) = 0 := by omega
    have e7 : decide (((2 * m : Nat) : Int) < 0) = false := decide_eq_false (by omega)
    rw [e5, if_neg e6, e7, Int.natAbs_natCast]
  obtain ⟨f, rr, g1, g2, g3, g4⟩ := nearest_rung false (mag := 2 * m) (-1074 + (k : Int)) (by omega)
  rw [show (-1074 - (-1074 + (k : Int))).toNat = 0 by omega, show (-1074 + (k : Int) + 1074).toNat = k by omega, Nat.pow_zero] at g2 g3 g4
  simp only [Nat.mul_one] at g2 g3 g4
  have e8 : 2 * m * 2 ^ k = NR (r + 4503599627370496) := by rw [NR_dbl h1, ← e2, Nat.mul_assoc]
  rw [e8] at g2 g3 g4
  rw [NR_lt_iff] at g3 g4
  have g5 : f = r + 4503599627370496 := by
    have : ¬ r + 4503599627370496 < f := fun h => by have := NR_lt_iff.2 h; omega
    omega
  subst g5
  have g6 : rr = r + 4503599627370496 := by omega
  rw [hbits, g1, g6, Nat.min_eq_left (by omega)]
  rfl
theorem step_down {r : Nat} (h1 : 0 < r) (h2 : r < INF) : stepW false false r = r - 1 := by
  unfold stepW
  rw [if_neg (by omega), if_neg (by omega), if_neg (by omega), if_neg (by simp)]
  rfl
theorem step_up {r : Nat} (h1 : 0 < r) (h2 : r < INF) : stepW true false r = r + 1 := by
  unfold stepW
  rw [if_neg (by omega), if_neg (by omega), if_neg (by omega), if_pos (by rfl)]
  rfl
theorem kn_pos {lo hi : Nat} (h : lo ≤ hi) (h2 : hi < INF) : kn lo hi = true := by
  have e1 : finB lo = true := by
    have := fin_word false (r := lo) (by have := inf_val; omega)
    rw [show wordB false lo = lo from rfl] at this
    rw [this]
    exact decide_eq_true (by omega)
  have e2 : finB hi = true := by
    have := fin_word false (r := hi) (by have := inf_val; omega)
    rw [show wordB false hi = hi from rfl] at this
    rw [this]
    exact decide_eq_true h2
  have e3 : ord lo hi = some (compare (sg false lo) (sg false hi)) := ord_rung false false (by omega) (by omega)
  unfold kn leB
  rw [e1, e2, e3]
  simp only [sg, Bool.false_eq_true, if_false, Bool.and_self, Bool.true_and, cmp_beq]
  rw [Bool.or_eq_true, decide_eq_true_iff, decide_eq_true_iff, compare_lt_iff, compare_eq_iff]
  omega
/-- The ends, k times doubled. -/
def loW (r k : Nat) : Nat := r + k * 4503599627370495
def hiW (r k : Nat) : Nat := r + k * 4503599627370497
theorem ends_ok {r k : Nat} (h1 : 4602678819172646912 ≤ r) (h2 : r ≤ 4616189618054758400) (hk : k ≤ 901) : 4503599627370496 ≤ loW r k ∧ loW r k ≤ hiW r k ∧ hiW r k + 4503599627370497 < INF := by
  have := inf_val
  unfold loW hiW
  refine ⟨by omega, by omega, ?_⟩
  have : k * 4503599627370497 ≤ 901 * 4503599627370497 := Nat.mul_le_mul_right _ hk
  omega
theorem loW_next (r k : Nat) : loW r (k + 1) = loW r k + 4503599627370496 - 1 := by unfold loW; omega
theorem hiW_next (r k : Nat) : hiW r (k + 1) = hiW r k + 4503599627370496 + 1 := by unfold hiW; omega
end Fl
end Go.Proofs.Ytmjnifjohfljaaa
