/-
  Gaps by value at a door seat: around, Add, Sub.
-/
import Derived.Test.YtmjnifjohfljaaaTaGpA
namespace Go.Proofs.Ytmjnifjohfljaaa
set_option linter.unusedSimpArgs false
open Go.RowKit
namespace Fl
attribute [local go_sem] run_store_float

/-- What around tells. -/
def arW (lo hi : Nat) : Nat × Nat := if kn lo hi then (lo, hi) else (18442240474082181120, 9218868437227405312)

set_option maxHeartbeats 400000 in
theorem around_core (u1 u2 lo hi : Nat) (hS1 : ∀ w : World, Calls Try.prog 56 #[.float .f64 u1, .int .i64 (-1)] w fun e w' => e = .returned (.float .f64 lo) ∧ w = w') (hS2 : ∀ w : World, Calls Try.prog 56 #[.float .f64 u2, .int .i64 1] w fun e w' => e = .returned (.float .f64 hi) ∧ w = w') (hl : Hid (lo < 18446744073709551616)) (hh : Hid (hi < 18446744073709551616)) (w : World) : Calls Try.prog 42 #[.float .f64 u1, .float .f64 u2] w fun e w' => e = .returned (.agg #[.float .f64 (arW lo hi).1, .float .f64 (arW lo hi).2]) ∧ Only [] w w' := by
  obtain ⟨hB1, hB2, ho⟩ := two_new w [.float .f64 0, .float .f64 0] [.float .f64 lo, .float .f64 hi] 30 30
  cases hk : kn lo hi
  · go_enter Try.func42, Try.ntmps42
    go_wp2_with (first | (go_at_call 56; (with_reducible refine (hS1 _).mono ?_); rintro e w' ⟨rfl, rfl⟩) | (go_at_call 56; (with_reducible refine (hS2 _).mono ?_); rintro e w' ⟨rfl, rfl⟩) | (go_at_call 8; (with_reducible refine (known_any lo hi hl.out hh.out _).mono ?_); rw [hk]; rintro e w' ⟨rfl, ho1⟩; have c0 := (hB2.only ho1 (by simp)).cell 0; have c1 := (hB2.only ho1 (by simp)).cell 1; have B1 := hB1.only ho1 (by simp); have d0 := B1.cell 0; have d1 := B1.cell 1; have f0 := B1.frozen 0; have f1 := B1.frozen 1; simp only [List.getElem?_cons_zero, List.getElem?_cons_succ] at c0 c1 d0 d1) | (go_at_call 9; (with_reducible refine (all_any _).mono ?_); rintro e w2 ⟨rfl, ho2⟩; have B2 := B1.only ho2 (by simp); have d0 := B2.cell 0; have d1 := B2.cell 1; have f0 := B2.frozen 0; have f1 := B2.frozen 1; simp only [List.getElem?_cons_zero, List.getElem?_cons_succ] at d0 d1))
    refine bodyPost_ret (v := .agg #[.float .f64 18442240474082181120, .float .f64 9218868437227405312]) (by simp [results, Try.results42, go_sem, d0, d1]) rfl ⟨by simp [arW, hk], ?_⟩
    exact (((ho.nil_trans ho1).nil_trans ho2).setCell (.inr (Nat.le_refl _)) _).setCell (.inr (Nat.le_refl _)) _
  · go_enter Try.func42, Try.ntmps42
    go_wp2_with (first | (go_at_call 56; (with_reducible refine (hS1 _).mono ?_); rintro e w' ⟨rfl, rfl⟩) | (go_at_call 56; (with_reducible refine (hS2 _).mono ?_); rintro e w' ⟨rfl, rfl⟩) | (go_at_call 8; (with_reducible refine (known_any lo hi hl.out hh.out _).mono ?_); rw [hk]; rintro e w' ⟨rfl, ho1⟩; have c0 := (hB2.only ho1 (by simp)).cell 0; have c1 := (hB2.only ho1 (by simp)).cell 1; have B1 := hB1.only ho1 (by simp); have d0 := B1.cell 0; have d1 := B1.cell 1; have f0 := B1.frozen 0; have f1 := B1.frozen 1; simp only [List.getElem?_cons_zero, List.getElem?_cons_succ] at c0 c1 d0 d1) | (go_at_call 9; (with_reducible refine (all_any _).mono ?_); rintro e w2 ⟨rfl, ho2⟩; have B2 := B1.only ho2 (by simp); have d0 := B2.cell 0; have d1 := B2.cell 1; have f0 := B2.frozen 0; have f1 := B2.frozen 1; simp only [List.getElem?_cons_zero, List.getElem?_cons_succ] at d0 d1))
    refine bodyPost_ret (v := .agg #[.float .f64 lo, .float .f64 hi]) (by simp [results, Try.results42, go_sem, d0, d1]) rfl ⟨by simp [arW, hk], ?_⟩
    exact ((ho.nil_trans ho1).setCell (.inr (Nat.le_refl _)) _).setCell (.inr (Nat.le_refl _)) _
theorem around_any (s1 s2 : Bool) {r1 r2 lo hi : Nat} (h1 : r1 < 9223372036854775808) (h2 : r2 < 9223372036854775808) (e1 : stepW false s1 r1 = lo) (e2 : stepW true s2 r2 = hi) (hl : lo < 18446744073709551616) (hh : hi < 18446744073709551616) (w : World) : Calls Try.prog 42 #[.float .f64 (wordB s1 r1), .float .f64 (wordB s2 r2)] w fun e w' => e = .returned (.agg #[.float .f64 (arW lo hi).1, .float .f64 (arW lo hi).2]) ∧ Only [] w w' :=
  around_core _ _ lo hi (fun w => step_any s1 h1 (-1) lo (by rw [show decide ((0 : Int) ≤ -1) = false from rfl]; exact e1) w) (fun w => step_any s2 h2 1 hi (by rw [show decide ((0 : Int) ≤ 1) = true from rfl]; exact e2) w) (Lib.hid hl) (Lib.hid hh) w
end Fl
end Go.Proofs.Ytmjnifjohfljaaa
