/-
  Joined texts.
-/
import Derived.Test.YtigpnopeacicpaaDoorTaGDyP
import Derived.Test.YtigpnopeacicpaaDoorProg
import Derived.Test.YtigpnopeacicpaaDoorTaMem
import Derived.WalkLawsBesides
/-
  Floats, plain: a word is a sign and a rung; what a rung is worth; the nearest word is one of the two rungs beside a number.
-/
namespace Go.Proofs.YtigpnopeacicpaaDoor
set_option linter.unusedSimpArgs false

namespace Fl
/-- How many units of the least float64 a rung is worth. -/
def NR (r : Nat) : Nat := if r < 4503599627370496 then r else (4503599627370496 + r % 4503599627370496) * 2 ^ (r / 4503599627370496 - 1)
/-- Infinity's rung. -/
abbrev INF : Nat := 9218868437227405312
theorem NR_base (E k : Nat) (h1 : 4503599627370496 ≤ k) (h2 : k ≤ 9007199254740992) : NR (E * 4503599627370496 + k) = k * 2 ^ E := by
  unfold NR
  rw [if_neg (by omega)]
  by_cases h : k = 9007199254740992
  · subst h
    rw [show (E * 4503599627370496 + 9007199254740992) % 4503599627370496 = 0 by omega, show (E * 4503599627370496 + 9007199254740992) / 4503599627370496 - 1 = E + 1 by omega, Nat.pow_succ]
    omega
  · rw [show (E * 4503599627370496 + k) % 4503599627370496 = k - 4503599627370496 by omega, show (E * 4503599627370496 + k) / 4503599627370496 - 1 = E by omega, show 4503599627370496 + (k - 4503599627370496) = k by omega]
theorem NR_low {k : Nat} (h : k ≤ 9007199254740992) : NR k = k := by
  by_cases h0 : k < 4503599627370496
  · unfold NR; rw [if_pos h0]
  · have := NR_base 0 k (by omega) h
    simpa using this
/-- A word. -/
def wordB (neg : Bool) (r : Nat) : Nat := if neg then 9223372036854775808 + r else r
theorem word_split {w : Nat} (h : w < 18446744073709551616) : ∃ neg r, w = wordB neg r ∧ r < 9223372036854775808 := by
  by_cases h0 : w < 9223372036854775808
  · exact ⟨false, w, rfl, h0⟩
  · exact ⟨true, w - 9223372036854775808, by unfold wordB; simp; omega, by omega⟩
theorem word_parts (neg : Bool) {r : Nat} (h : r < 9223372036854775808) : (wordB neg r / 9223372036854775808 % 2 == 1) = neg ∧ wordB neg r % 9223372036854775808 = r := by
  cases neg
  · simp only [wordB, Bool.false_eq_true, if_false]
    rw [Nat.div_eq_of_lt h, Nat.mod_eq_of_lt h]
    exact ⟨rfl, rfl⟩
  · simp only [wordB, if_true]
    rw [show (9223372036854775808 + r) / 9223372036854775808 = 1 by omega, show (9223372036854775808 + r) % 9223372036854775808 = r by omega]
    exact ⟨rfl, rfl⟩
/-- What a finite word stands for. -/
theorem read_fin (neg : Bool) {r : Nat} (h : r < INF) : ∃ mag k : Nat, Ieee.double.read (wordB neg r) = .number neg mag (-1074 + (k : Int)) ∧ mag * 2 ^ k = NR r := by
  obtain ⟨h1, h2⟩ := word_parts neg (show r < 9223372036854775808 by unfold INF at h; omega)
  unfold Ieee.Format.read
  simp only [show Ieee.double.signWeight = 9223372036854775808 by decide, show Ieee.double.binade = 4503599627370496 by decide, show Ieee.double.infRung = 9218868437227405312 by decide, show Ieee.double.leastPlace = -1074 by decide, h1, h2]
  by_cases h0 : r < 4503599627370496
  · rw [if_pos h0]
    exact ⟨r, 0, by simp, by rw [NR_low (by omega)]; simp⟩
  · rw [if_neg h0, if_pos h]
    exact ⟨_, _, rfl, by unfold NR; rw [if_neg h0]⟩
theorem read_inf (neg : Bool) : Ieee.double.read (wordB neg INF) = .infinity neg := by cases neg <;> decide
theorem read_nan (neg : Bool) {r : Nat} (h : INF < r) (h2 : r < 9223372036854775808) : Ieee.double.read (wordB neg r) = .nan neg (r - INF) := by
  obtain ⟨k1, k2⟩ := word_parts neg h2
  unfold Ieee.Format.read
  simp only [show Ieee.double.signWeight = 9223372036854775808 by decide, show Ieee.double.binade = 4503599627370496 by decide, show Ieee.double.infRung = 9218868437227405312 by decide, k1, k2]
  unfold INF at h ⊢
  rw [if_neg (by omega), if_neg (by omega), if_neg (by omega)]

end Fl
end Go.Proofs.YtigpnopeacicpaaDoor

/-
  Floats, plain: the dyad of a word, the order of words, and what flo.Float tells: the word beside a dyad.
-/
namespace Go.Proofs.YtigpnopeacicpaaDoor
set_option linter.unusedSimpArgs false

namespace Fl
def mantW (r : Nat) : Nat := if r < 4503599627370496 then r else 4503599627370496 + r % 4503599627370496
def expoW (r : Nat) : Nat := r / 4503599627370496 - 1
/-- The dyad of a word. -/
def fD (neg : Bool) (r : Nat) : Dy := nrm (sg neg (mantW r)) ((expoW r : Int) - 1074)
theorem signed_sg (neg : Bool) (m n : Nat) : Ieee.signed neg m n = sg neg (m * 2 ^ n) := by
  cases neg <;> simp [Ieee.signed, sg, Nat.shiftLeft_eq]
theorem ord_nan (a : Bool) {r : Nat} (h : INF < r) (h2 : r < 9223372036854775808) (w : Nat) : Ieee.double.order (wordB a r) w = none ∧ Ieee.double.order w (wordB a r) = none := by
  unfold Ieee.Format.order
  rw [read_nan a h h2]
  refine ⟨rfl, ?_⟩
  cases Ieee.double.read w <;> rfl

end Fl
end Go.Proofs.YtigpnopeacicpaaDoor

/-
  Floats, plain: a step; the two words beside a number; powers of two; sums.
-/
namespace Go.Proofs.YtigpnopeacicpaaDoor
set_option linter.unusedSimpArgs false

namespace Fl
theorem inf_val : INF = 9218868437227405312 := rfl
end Fl
end Go.Proofs.YtigpnopeacicpaaDoor

/-
  Package flo by value: Finite, Step, beyond, within; math.IsNaN, IsInf, Inf.
-/
namespace Go.Proofs.YtigpnopeacicpaaDoor
set_option linter.unusedSimpArgs false
open Go.RowKit

namespace Fl

theorem word_lt (s : Bool) {r : Nat} (h : r < 9223372036854775808) : wordB s r < 18446744073709551616 := by cases s <;> simp [wordB] <;> omega

/-- flo.Finite. -/
def finB (f : Nat) : Bool := decide (f / 4503599627370496 % 2048 ≠ 2047)

theorem fin_arith (b : Nat) (hb : b < 18446744073709551616) : (bits BinOp.and IntKind.u64 ((b : Int) / 4503599627370496) 2047 != 2047) = finB b := by
  have e1 : ((b : Int) / 4503599627370496) = ((b / 4503599627370496 : Nat) : Int) := by omega
  have h1 : bits BinOp.and IntKind.u64 ((b / 4503599627370496 : Nat) : Int) ((2047 : Nat) : Int) = (((b / 4503599627370496) &&& 2047 : Nat) : Int) := bits_and_u64_nat _ _ (by omega) (by omega)
  rw [e1, show (2047 : Int) = ((2047 : Nat) : Int) from rfl, h1]
  have h2 : (b / 4503599627370496) &&& 2047 = (b / 4503599627370496) % 2048 := Nat.and_two_pow_sub_one_eq_mod _ 11
  rw [h2]
  unfold finB
  rw [Bool.eq_iff_iff]
  simp
  omega

theorem fin_word (s : Bool) {r : Nat} (h : r < 9223372036854775808) : finB (wordB s r) = decide (r < INF) := by
  unfold finB
  rw [Bool.eq_iff_iff]
  cases s <;> simp [wordB, INF] <;> omega

theorem bits_run (n : Nat) (w : World) : (callFunc 125 #[.float .f64 n]).run Tryd.prog w = .ok (.value (.int .u64 (n : Int))) w := by kernel_rfl

set_option maxHeartbeats 400000 in
theorem finite_any (b : Nat) (hb : b < 18446744073709551616) (w : World) :
    Calls Tryd.prog 127 #[.float .f64 b] w fun e w' => e = .returned (.bool (finB b)) ∧ w = w' := by
  have h := bits_run
  have hf := Lib.hid (fin_arith b hb)
  clear hb
  go_enter Tryd.func127, Tryd.ntmps127
  go_wp2
  go_ret
  exact ⟨by simp [hf.out], rfl⟩

end Fl

end Go.Proofs.YtigpnopeacicpaaDoor
