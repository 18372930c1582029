/-
  Gaps by value at a door seat: Mul, Quo.
-/
import Derived.Test.YtmjnifjohfljaaaTaGpC
namespace Go.Proofs.Ytmjnifjohfljaaa
set_option linter.unusedSimpArgs false
open Go.RowKit
namespace Fl
attribute [local go_sem] run_store_float

set_option maxHeartbeats 1600000 in
theorem mul_core (p1 p2 q1 q2 u1 u2 u3 u4 lo hi x y : Nat) (hp1 : Hid (p1 < 18446744073709551616)) (hp2 : Hid (p2 < 18446744073709551616)) (hq1 : Hid (q1 < 18446744073709551616)) (hq2 : Hid (q2 < 18446744073709551616)) (hk : (kn p1 p2 && kn q1 q2) = true) (h1 : floatBits .mul .f64 p1 q1 = some u1) (h2 : floatBits .mul .f64 p1 q2 = some u2) (h3 : floatBits .mul .f64 p2 q1 = some u3) (h4 : floatBits .mul .f64 p2 q2 = some u4)
    (hmin : ∀ w : World, (Builtin.min_ #[22, 22, 22, 22] 22 #[.float .f64 u1, .float .f64 u2, .float .f64 u3, .float .f64 u4]).run Try.prog w = .ok (.float .f64 lo) w) (hmax : ∀ w : World, (Builtin.max_ #[22, 22, 22, 22] 22 #[.float .f64 u1, .float .f64 u2, .float .f64 u3, .float .f64 u4]).run Try.prog w = .ok (.float .f64 hi) w)
    (hA : ∀ w : World, Calls Try.prog 42 #[.float .f64 lo, .float .f64 hi] w fun e w' => e = .returned (.agg #[.float .f64 x, .float .f64 y]) ∧ Only [] w w') (w : World) : Calls Try.prog 29 #[.agg #[.float .f64 p1, .float .f64 p2], .agg #[.float .f64 q1, .float .f64 q2]] w fun e w' => e = .returned (.agg #[.float .f64 x, .float .f64 y]) ∧ Only [] w w' := by
  have m1 : ∀ w : World, (binOp .mul 22 (.float .f64 p1) (.float .f64 q1)).run Try.prog w = .ok (.float .f64 u1) w := fun w => run_float_arith w .mul 22 .f64 _ _ _ h1
  have m2 : ∀ w : World, (binOp .mul 22 (.float .f64 p1) (.float .f64 q2)).run Try.prog w = .ok (.float .f64 u2) w := fun w => run_float_arith w .mul 22 .f64 _ _ _ h2
  have m3 : ∀ w : World, (binOp .mul 22 (.float .f64 p2) (.float .f64 q1)).run Try.prog w = .ok (.float .f64 u3) w := fun w => run_float_arith w .mul 22 .f64 _ _ _ h3
  have m4 : ∀ w : World, (binOp .mul 22 (.float .f64 p2) (.float .f64 q2)).run Try.prog w = .ok (.float .f64 u4) w := fun w => run_float_arith w .mul 22 .f64 _ _ _ h4
  have S0 := Lib.hid (Six.new w p1 p2 q1 q2 0 0)
  clear h1 h2 h3 h4
  go_enter Try.func29, Try.ntmps29
  go_wp2_with fail
  refine (unknown_any _ _ _ _ hp1 hp2 hq1 hq2 _).mono ?_
  rw [hk]
  rintro e w' ⟨rfl, ho1⟩
  have S1 := Lib.hid (S0.out.only ho1)
  clear ho1 S0
  have a0 := S1.out.b0.cell 0
  have a1 := S1.out.b0.cell 1
  have b0 := S1.out.b1.cell 0
  have b1 := S1.out.b1.cell 1
  have c0 := S1.out.b2.cell 0
  have c1 := S1.out.b2.cell 1
  have f0 := S1.out.b2.frozen 0
  have f1 := S1.out.b2.frozen 1
  simp only [List.getElem?_cons_zero, List.getElem?_cons_succ] at a0 a1 b0 b1 c0 c1
  go_wp2_with fail
  go_quiet (fail)
  go_wp2_with fail
  refine (hA _).mono ?_
  rintro e w2 ⟨rfl, ho2⟩
  have S2 := Lib.hid (S1.out.only ((Only.refl _ _).drewN _ |>.nil_trans ho2))
  clear a0 a1 b0 b1 c0 c1 f0 f1 S1 ho2 hmin hmax m1 m2 m3 m4
  have a0 := S2.out.b0.cell 0
  have a1 := S2.out.b0.cell 1
  have b0 := S2.out.b1.cell 0
  have b1 := S2.out.b1.cell 1
  have c0 := S2.out.b2.cell 0
  have c1 := S2.out.b2.cell 1
  have f0 := S2.out.b2.frozen 0
  have f1 := S2.out.b2.frozen 1
  simp only [List.getElem?_cons_zero, List.getElem?_cons_succ] at a0 a1 b0 b1 c0 c1
  go_wp2_with fail
  refine bodyPost_ret (v := .agg #[.float .f64 x, .float .f64 y]) (by simp [results, Try.results29, go_sem, c0, c1]) rfl ⟨rfl, ?_⟩
  have ho := S2.out.ho
  exact (ho.setCell (.inr (by show w.heap.size ≤ w.heap.size + 1 + 1; omega)) _).setCell (.inr (by show w.heap.size ≤ w.heap.size + 1 + 1; omega)) _

end Fl
end Go.Proofs.Ytmjnifjohfljaaa
