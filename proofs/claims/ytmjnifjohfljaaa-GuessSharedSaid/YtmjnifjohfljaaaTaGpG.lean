/-
  Gaps by value at a door seat: Sign; products and quotients of constants; alive.
-/
import Derived.Test.YtmjnifjohfljaaaTaGpF
namespace Go.Proofs.Ytmjnifjohfljaaa
set_option linter.unusedSimpArgs false
open Go.RowKit
namespace Fl
attribute [local go_sem] run_store_float

set_option maxHeartbeats 400000 in
theorem sign_any (lo hi : Nat) (hlo : lo < 18446744073709551616) (hhi : hi < 18446744073709551616) (w : World) (hk : kn lo hi = true) :
    Calls Try.prog 13 #[.agg #[.float .f64 lo, .float .f64 hi]] w fun e w' => e = .returned (.tuple #[.int .i64 (if ord lo 0 = some .gt then 1 else if ord hi 0 = some .lt then -1 else 0), .bool (if ord lo 0 = some .gt then true else if ord hi 0 = some .lt then true else ord lo 0 == some .eq && ord hi 0 == some .eq)]) ∧ Only [] w w' := by
  have Hk := Lib.hid hk
  have Hlo := Lib.hid hlo
  have Hhi := Lib.hid hhi
  have ho := (Only.refl [] w).alloc (.cells #[.float .f64 lo, .float .f64 hi] 30)
  have hB := Blk.new w 30 [.float .f64 lo, .float .f64 hi]
  generalize hg : ord lo 0 = a
  generalize hg2 : ord hi 0 = b
  have hg' : FloatKind.f64.format.order lo 0 = a := hg
  have hg2' : FloatKind.f64.format.order hi 0 = b := hg2
  clear hg hg2 hk hlo hhi ho
  have Ho := Lib.hid ((Only.refl [] w).alloc (.cells #[.float .f64 lo, .float .f64 hi] 30))
  by_cases g1 : a = some .gt
  · subst g1
    go_enter Try.func13, Try.ntmps13
    go_wp2_with (go_at_call 8; (with_reducible refine (known_any _ _ Hlo.out Hhi.out _).mono ?_); rw [Hk.out]; rintro e w' ⟨rfl, ho1⟩; have hB1 := hB.only ho1 (by simp); have c0 := hB1.cell 0; have c1 := hB1.cell 1; simp only [List.getElem?_cons_zero, List.getElem?_cons_succ] at c0 c1)
    go_ret2
    exact ⟨by simp, Ho.out.nil_trans ho1⟩
  · have g1' : (a == some .gt) = false := by simpa using g1
    by_cases g2 : b = some .lt
    · subst g2
      go_enter Try.func13, Try.ntmps13
      go_wp2_with (go_at_call 8; (with_reducible refine (known_any _ _ Hlo.out Hhi.out _).mono ?_); rw [Hk.out]; rintro e w' ⟨rfl, ho1⟩; have hB1 := hB.only ho1 (by simp); have c0 := hB1.cell 0; have c1 := hB1.cell 1; simp only [List.getElem?_cons_zero, List.getElem?_cons_succ] at c0 c1)
      go_ret2
      exact ⟨by simp [g1], Ho.out.nil_trans ho1⟩
    · have g2' : (b == some .lt) = false := by simpa using g2
      cases g3 : a == some .eq
      all_goals
        go_enter Try.func13, Try.ntmps13
        go_wp2_with (go_at_call 8; (with_reducible refine (known_any _ _ Hlo.out Hhi.out _).mono ?_); rw [Hk.out]; rintro e w' ⟨rfl, ho1⟩; have hB1 := hB.only ho1 (by simp); have c0 := hB1.cell 0; have c1 := hB1.cell 1; simp only [List.getElem?_cons_zero, List.getElem?_cons_succ] at c0 c1)
        go_quiet (fail)
        go_wp2_with fail
        go_ret2
        exact ⟨by simp [g1, g2, g3], (Ho.out.nil_trans ho1).drewN _⟩

theorem lt64 (v : Nat) (h : decide (v < 18446744073709551616) = true) : Hid (v < 18446744073709551616) := Lib.hid (of_decide_eq_true h)

end Fl

end Go.Proofs.Ytmjnifjohfljaaa
