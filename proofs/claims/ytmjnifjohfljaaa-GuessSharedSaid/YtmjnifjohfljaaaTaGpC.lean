/-
  Gaps by value at a door seat: Add, Sub.
-/
import Derived.Test.YtmjnifjohfljaaaTaGpB
namespace Go.Proofs.Ytmjnifjohfljaaa
set_option linter.unusedSimpArgs false
open Go.RowKit
namespace Fl
attribute [local go_sem] run_store_float

theorem three_new (w : World) (a b c : List Value) (t : TypeId) : Blk (((w.alloc (.cells a.toArray t)).alloc (.cells b.toArray t)).alloc (.cells c.toArray t)) w.heap.size t a ∧ Blk (((w.alloc (.cells a.toArray t)).alloc (.cells b.toArray t)).alloc (.cells c.toArray t)) (w.heap.size + 1) t b ∧
    Blk (((w.alloc (.cells a.toArray t)).alloc (.cells b.toArray t)).alloc (.cells c.toArray t)) (w.heap.size + 1 + 1) t c ∧ Only [] w (((w.alloc (.cells a.toArray t)).alloc (.cells b.toArray t)).alloc (.cells c.toArray t)) := by
  obtain ⟨h1, h2, h3⟩ := two_new w a b t t
  have e : ((w.alloc (.cells a.toArray t)).alloc (.cells b.toArray t)).heap.size = w.heap.size + 1 + 1 := by rw [World.size_alloc, World.size_alloc]
  have h := Blk.new ((w.alloc (.cells a.toArray t)).alloc (.cells b.toArray t)) t c
  rw [e] at h
  exact ⟨h1.alloc _, h2.alloc _, h, h3.alloc _⟩

/-- Three blocks of two floats each, in a world that is w but for new blocks. -/
structure Six (w w' : World) (a b c d e f : Nat) : Prop where
  ho : Only [] w w'
  b0 : Blk w' w.heap.size 30 [.float .f64 a, .float .f64 b]
  b1 : Blk w' (w.heap.size + 1) 30 [.float .f64 c, .float .f64 d]
  b2 : Blk w' (w.heap.size + 1 + 1) 30 [.float .f64 e, .float .f64 f]

theorem Six.only {w w' w'' : World} {a b c d e f : Nat} (h : Six w w' a b c d e f) (ho : Only [] w' w'') : Six w w'' a b c d e f := ⟨h.ho.nil_trans ho, h.b0.only ho (by simp), h.b1.only ho (by simp), h.b2.only ho (by simp)⟩

theorem Six.new (w : World) (a b c d e f : Nat) : Six w (((w.alloc (.cells #[.float .f64 a, .float .f64 b] 30)).alloc (.cells #[.float .f64 c, .float .f64 d] 30)).alloc (.cells #[.float .f64 e, .float .f64 f] 30)) a b c d e f := by
  obtain ⟨h1, h2, h3, h4⟩ := three_new w [.float .f64 a, .float .f64 b] [.float .f64 c, .float .f64 d] [.float .f64 e, .float .f64 f] 30
  exact ⟨h4, h1, h2, h3⟩

set_option maxHeartbeats 800000 in
theorem add_core (p1 p2 q1 q2 u1 u2 x y : Nat) (hp1 : Hid (p1 < 18446744073709551616)) (hp2 : Hid (p2 < 18446744073709551616)) (hq1 : Hid (q1 < 18446744073709551616)) (hq2 : Hid (q2 < 18446744073709551616)) (hk : (kn p1 p2 && kn q1 q2) = true) (h1 : floatBits .add .f64 p1 q1 = some u1) (h2 : floatBits .add .f64 p2 q2 = some u2) (hA : ∀ w : World, Calls Try.prog 42 #[.float .f64 u1, .float .f64 u2] w fun e w' => e = .returned (.agg #[.float .f64 x, .float .f64 y]) ∧ Only [] w w') (w : World) : Calls Try.prog 28 #[.agg #[.float .f64 p1, .float .f64 p2], .agg #[.float .f64 q1, .float .f64 q2]] w fun e w' => e = .returned (.agg #[.float .f64 x, .float .f64 y]) ∧ Only [] w w' := by
  have m1 : ∀ w : World, (binOp .add 22 (.float .f64 p1) (.float .f64 q1)).run Try.prog w = .ok (.float .f64 u1) w := fun w => run_float_arith w .add 22 .f64 _ _ _ h1
  have m2 : ∀ w : World, (binOp .add 22 (.float .f64 p2) (.float .f64 q2)).run Try.prog w = .ok (.float .f64 u2) w := fun w => run_float_arith w .add 22 .f64 _ _ _ h2
  have S0 := Lib.hid (Six.new w p1 p2 q1 q2 0 0)
  clear h1 h2
  go_enter Try.func28, Try.ntmps28
  go_wp2_with fail
  refine (unknown_any _ _ _ _ hp1 hp2 hq1 hq2 _).mono ?_
  rw [hk]
  rintro e w' ⟨rfl, ho1⟩
  have S1 := Lib.hid (S0.out.only ho1)
  clear ho1 S0
  have a0 := S1.out.b0.cell 0
  have a1 := S1.out.b0.cell 1
  have b0 := S1.out.b1.cell 0
  have b1 := S1.out.b1.cell 1
  have c0 := S1.out.b2.cell 0
  have c1 := S1.out.b2.cell 1
  have f0 := S1.out.b2.frozen 0
  have f1 := S1.out.b2.frozen 1
  simp only [List.getElem?_cons_zero, List.getElem?_cons_succ] at a0 a1 b0 b1 c0 c1
  go_wp2_with fail
  refine (hA _).mono ?_
  rintro e w2 ⟨rfl, ho2⟩
  have S2 := Lib.hid (S1.out.only ho2)
  clear a0 a1 b0 b1 c0 c1 f0 f1 S1 ho2 m1 m2
  have a0 := S2.out.b0.cell 0
  have a1 := S2.out.b0.cell 1
  have b0 := S2.out.b1.cell 0
  have b1 := S2.out.b1.cell 1
  have c0 := S2.out.b2.cell 0
  have c1 := S2.out.b2.cell 1
  have f0 := S2.out.b2.frozen 0
  have f1 := S2.out.b2.frozen 1
  simp only [List.getElem?_cons_zero, List.getElem?_cons_succ] at a0 a1 b0 b1 c0 c1
  go_wp2_with fail
  refine bodyPost_ret (v := .agg #[.float .f64 x, .float .f64 y]) (by simp [results, Try.results28, go_sem, c0, c1]) rfl ⟨rfl, ?_⟩
  have ho := S2.out.ho
  exact (ho.setCell (.inr (by show w.heap.size ≤ w.heap.size + 1 + 1; omega)) _).setCell (.inr (by show w.heap.size ≤ w.heap.size + 1 + 1; omega)) _

end Fl

end Go.Proofs.Ytmjnifjohfljaaa
