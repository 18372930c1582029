/-
  Package flo by value: Finite, Step, beyond, within; math.IsNaN, IsInf, Inf.
-/
import Derived.Test.YtgiejjpemhceiaaDoorTaFlY
import Derived.WalkLawsBesides
namespace Go.Proofs.YtgiejjpemhceiaaDoor
set_option linter.unusedSimpArgs false
open Go.RowKit

namespace Fl
theorem word_lt (s : Bool) {r : Nat} (h : r < 9223372036854775808) : wordB s r < 18446744073709551616 := by cases s <;> simp [wordB] <;> omega
/-- flo.Finite. -/
def finB (f : Nat) : Bool := decide (f / 4503599627370496 % 2048 ≠ 2047)
theorem fin_arith (b : Nat) (hb : b < 18446744073709551616) : (bits BinOp.and IntKind.u64 ((b : Int) / 4503599627370496) 2047 != 2047) = finB b := by
  have e1 : ((b : Int) / 4503599627370496) = ((b / 4503599627370496 : Nat) : Int) := by omega
  have h1 : bits BinOp.and IntKind.u64 ((b / 4503599627370496 : Nat) : Int) ((2047 : Nat) : Int) = (((b / 4503599627370496) &&& 2047 : Nat) : Int) := bits_and_u64_nat _ _ (by omega) (by omega)
  rw [e1, show (2047 : Int) = ((2047 : Nat) : Int) from rfl, h1]
  have h2 : (b / 4503599627370496) &&& 2047 = (b / 4503599627370496) % 2048 := Nat.and_two_pow_sub_one_eq_mod _ 11
  rw [h2]
  unfold finB
  rw [Bool.eq_iff_iff]
  simp
  omega
theorem fin_word (s : Bool) {r : Nat} (h : r < 9223372036854775808) : finB (wordB s r) = decide (r < INF) := by
  unfold finB
  rw [Bool.eq_iff_iff]
  cases s <;> simp [wordB, INF] <;> omega
theorem bits_run (n : Nat) (w : World) : (callFunc 87 #[.float .f64 n]).run Tryd.prog w = .ok (.value (.int .u64 (n : Int))) w := by kernel_rfl
theorem frombits_run (n : Nat) (w : World) : (callFunc 113 #[.int .u64 (n : Int)]).run Tryd.prog w = .ok (.value (.float .f64 n)) w := by kernel_rfl

set_option maxHeartbeats 400000 in
theorem finite_any (b : Nat) (hb : b < 18446744073709551616) (w : World) :
    Calls Tryd.prog 14 #[.float .f64 b] w fun e w' => e = .returned (.bool (finB b)) ∧ w = w' := by
  have h := bits_run
  have hf := Lib.hid (fin_arith b hb)
  clear hb
  go_enter Tryd.func14, Tryd.ntmps14
  go_wp2
  go_ret
  exact ⟨by simp [hf.out], rfl⟩

theorem infp_any (u : Nat) (w : World) (hu : Hid (9218868437227405312 = u)) : Calls Tryd.prog 109 #[.int .i64 1] w fun e w' => e = .returned (.float .f64 u) ∧ w = w' := by
  have f2 : ∀ w : World, (callFunc 113 #[.int .u64 9218868437227405312]).run Tryd.prog w = .ok (.value (.float .f64 u)) w := fun w => by rw [← hu.out]; kernel_rfl
  go_enter Tryd.func109, Tryd.ntmps109
  go_wp2_with fail
  go_ret
  exact ⟨rfl, rfl⟩
theorem infn_any (u : Nat) (w : World) (hu : Hid (18442240474082181120 = u)) : Calls Tryd.prog 109 #[.int .i64 (-1)] w fun e w' => e = .returned (.float .f64 u) ∧ w = w' := by
  have f2 : ∀ w : World, (callFunc 113 #[.int .u64 18442240474082181120]).run Tryd.prog w = .ok (.value (.float .f64 u)) w := fun w => by rw [← hu.out]; kernel_rfl
  go_enter Tryd.func109, Tryd.ntmps109
  go_wp2_with fail
  go_ret
  exact ⟨rfl, rfl⟩
theorem dec_neg (dir : Int) : decide (dir < 0) = !decide (0 ≤ dir) := by
  by_cases h5 : 0 ≤ dir
  · rw [decide_eq_true h5, decide_eq_false (by omega)]; rfl
  · rw [decide_eq_false h5, decide_eq_true (by omega)]; rfl
end Fl
end Go.Proofs.YtgiejjpemhceiaaDoor
