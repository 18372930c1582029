/-
  Gaps by value at a door seat: At, Sign, quotients over zero, Sqrt.
-/
import Derived.Test.YtmjnifjohfljaaaTaGpD
namespace Go.Proofs.Ytmjnifjohfljaaa
set_option linter.unusedSimpArgs false
open Go.RowKit
namespace Fl
attribute [local go_sem] run_store_float

theorem at_yes (v : Nat) (Hv : Hid (v < 18446744073709551616)) (h1 : finB v = true) (w : World) : Calls Try.prog 11 #[.float .f64 v] w fun e w' => e = .returned (.agg #[.float .f64 v, .float .f64 v]) ∧ Only [] w w' := by
  go_enter Try.func11, Try.ntmps11
  go_wp2_with (first | (go_at_call 14; (with_reducible refine (finite_any _ Hv.out _).mono ?_); rintro e w' ⟨rfl, rfl⟩))
  refine bodyPost_ret (v := .agg #[.float .f64 v, .float .f64 v]) (by simp [results, Try.results11, go_sem]) rfl ⟨rfl, only_new w [_, _] _⟩

theorem msqrt_run (v u : Nat) (h : FloatKind.f64.format.sqrt v = some u) (w : World) : (callFunc 57 #[.float .f64 v]).run Try.prog w = .ok (.value (.float .f64 u)) w := by
  have e : (callFunc 57 #[.float .f64 v]).run Try.prog w = ((do let r ← Extern.MathSqrt.sqrt #[.float .f64 v]; pure (.value r)) : Sem _).run Try.prog w := by kernel_rfl
  have e2 : Extern.MathSqrt.sqrt #[.float .f64 v] = (match FloatKind.f64.format.sqrt v with | some r => pure (.float .f64 r) | none => do pure (.float .f64 (← choose (.nanBits .f64 v v)))) := rfl
  rw [e, e2, h]
  rfl
theorem msqrt_any (v u : Nat) (h : FloatKind.f64.format.sqrt v = some u) (w : World) : Calls Try.prog 43 #[.float .f64 v] w fun e w' => e = .returned (.float .f64 u) ∧ w = w' := by
  have hr := msqrt_run v u h
  go_enter Try.func43, Try.ntmps43
  go_wp2_with fail
  go_ret
  exact ⟨rfl, rfl⟩
end Fl
end Go.Proofs.Ytmjnifjohfljaaa
