/-
  Gaps by value at a door seat: Sqrt.
-/
import Derived.Test.YtmjnifjohfljaaaTaGpE
namespace Go.Proofs.Ytmjnifjohfljaaa
set_option linter.unusedSimpArgs false
open Go.RowKit
namespace Fl
attribute [local go_sem] run_store_float
/-- Two blocks of two floats each, in a world that is w but for new blocks. -/
structure Four (w w' : World) (a b c d : Nat) : Prop where
  ho : Only [] w w'
  b0 : Blk w' w.heap.size 30 [.float .f64 a, .float .f64 b]
  b1 : Blk w' (w.heap.size + 1) 30 [.float .f64 c, .float .f64 d]
theorem Four.only {w w' w'' : World} {a b c d : Nat} (h : Four w w' a b c d) (ho : Only [] w' w'') : Four w w'' a b c d := ⟨h.ho.nil_trans ho, h.b0.only ho (by simp), h.b1.only ho (by simp)⟩
theorem Four.new (w : World) (a b c d : Nat) : Four w ((w.alloc (.cells #[.float .f64 a, .float .f64 b] 30)).alloc (.cells #[.float .f64 c, .float .f64 d] 30)) a b c d := by
  obtain ⟨h1, h2, h4⟩ := two_new w [.float .f64 a, .float .f64 b] [.float .f64 c, .float .f64 d] 30 30
  exact ⟨h4, h1, h2⟩

set_option maxHeartbeats 800000 in
theorem gsqrt_core (p1 p2 u1 u2 x y : Nat) (hp1 : Hid (p1 < 18446744073709551616)) (hp2 : Hid (p2 < 18446744073709551616)) (hk : kn p1 p2 = true) (g1 : (FloatKind.f64.format.order p1 0 == some .lt) = false) (h1 : FloatKind.f64.format.sqrt p1 = some u1) (h2 : FloatKind.f64.format.sqrt p2 = some u2) (hA : ∀ w : World, Calls Try.prog 42 #[.float .f64 u1, .float .f64 u2] w fun e w' => e = .returned (.agg #[.float .f64 x, .float .f64 y]) ∧ Only [] w w') (w : World) : Calls Try.prog 31 #[.agg #[.float .f64 p1, .float .f64 p2]] w fun e w' => e = .returned (.agg #[.float .f64 x, .float .f64 y]) ∧ Only [] w w' := by
  have S0 := Lib.hid (Four.new w p1 p2 0 0)
  have R1 : ∀ w : World, Calls Try.prog 43 #[.float .f64 p1] w fun e w' => e = .returned (.float .f64 u1) ∧ w' = w := fun w => (msqrt_any p1 u1 h1 w).mono fun _ _ h => ⟨h.1, h.2.symm⟩
  have R2 : ∀ w : World, Calls Try.prog 43 #[.float .f64 p2] w fun e w' => e = .returned (.float .f64 u2) ∧ w' = w := fun w => (msqrt_any p2 u2 h2 w).mono fun _ _ h => ⟨h.1, h.2.symm⟩
  clear h1 h2
  go_enter Try.func31, Try.ntmps31
  go_wp2_with fail
  refine (known_any _ _ hp1.out hp2.out _).mono ?_
  rw [hk]
  rintro e w' ⟨rfl, ho1⟩
  have S1 := Lib.hid (S0.out.only ho1)
  clear ho1 S0
  have a0 := S1.out.b0.cell 0
  have a1 := S1.out.b0.cell 1
  have b0 := S1.out.b1.cell 0
  have b1 := S1.out.b1.cell 1
  have f0 := S1.out.b1.frozen 0
  have f1 := S1.out.b1.frozen 1
  simp only [List.getElem?_cons_zero, List.getElem?_cons_succ] at a0 a1 b0 b1
  go_wp2_with fail
  go_region_held3 (fun w' => w'.cell? ⟨w.heap.size, 0, none⟩ = some (.float .f64 p1) ∧ w'.cell? ⟨w.heap.size, 1, none⟩ = some (.float .f64 p2)) (go_keep) (first
    | (go_at_call 43; (with_reducible refine (R1 _).mono ?_); rintro e w3 ⟨rfl, rfl⟩)
    | (go_at_call 43; (with_reducible refine (R2 _).mono ?_); rintro e w3 ⟨rfl, rfl⟩)
    | (go_at_call 42; (with_reducible refine (hA _).mono ?_); rintro e w2 ⟨rfl, ho2⟩; have S2 := Lib.hid (S1.out.only ((Only.refl _ _).drewN _ |>.nil_trans ho2)); clear a0 a1 b0 b1 f0 f1 S1 ho2; have a0 := S2.out.b0.cell 0; have a1 := S2.out.b0.cell 1; have b0 := S2.out.b1.cell 0; have b1 := S2.out.b1.cell 1; have f0 := S2.out.b1.frozen 0; have f1 := S2.out.b1.frozen 1; simp only [List.getElem?_cons_zero, List.getElem?_cons_succ] at a0 a1 b0 b1))
  go_wp2_with fail
  refine bodyPost_ret (v := .agg #[.float .f64 x, .float .f64 y]) (by simp [results, Try.results31, go_sem, b0, b1]) rfl ⟨rfl, ?_⟩
  have ho := S2.out.ho
  exact (ho.setCell (.inr (by show w.heap.size ≤ w.heap.size + 1; omega)) _).setCell (.inr (by show w.heap.size ≤ w.heap.size + 1; omega)) _
end Fl
end Go.Proofs.Ytmjnifjohfljaaa
