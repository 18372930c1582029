/-
  guess.combine, of each kind of node.
-/
import Derived.Test.YtmjnifjohfljaaaTaGsB
namespace Go.Proofs.Ytmjnifjohfljaaa
set_option linter.unusedSimpArgs false
open Go.RowKit
attribute [local go_sem] run_store_float

/-- The boxes of combine. -/
structure CB (w w' : World) (nk : Int) (nf : Nat) (na nb : Int) (a b c d e f : Nat) : Prop where
  ho : Only [] w w'
  bn : Blk w' w.heap.size 26 [.int .i64 nk, .float .f64 nf, .int .i64 na, .int .i64 nb]
  b0 : Blk w' (w.heap.size + 1) 30 [.float .f64 a, .float .f64 b]
  b1 : Blk w' (w.heap.size + 1 + 1) 30 [.float .f64 c, .float .f64 d]
  b2 : Blk w' (w.heap.size + 1 + 1 + 1) 30 [.float .f64 e, .float .f64 f]
section
variable {w w' w'' : World} {nk : Int} {nf : Nat} {na nb : Int} {a b c d e f : Nat}
theorem CB.only (h : CB w w' nk nf na nb a b c d e f) (ho : Only [] w' w'') : CB w w'' nk nf na nb a b c d e f := ⟨h.ho.nil_trans ho, h.bn.only ho (by simp), h.b0.only ho (by simp), h.b1.only ho (by simp), h.b2.only ho (by simp)⟩
theorem CB.new (w : World) (nk : Int) (nf : Nat) (na nb : Int) (a b c d e f : Nat) : CB w ((((w.alloc (.cells #[.int .i64 nk, .float .f64 nf, .int .i64 na, .int .i64 nb] 26)).alloc (.cells #[.float .f64 a, .float .f64 b] 30)).alloc (.cells #[.float .f64 c, .float .f64 d] 30)).alloc (.cells #[.float .f64 e, .float .f64 f] 30)) nk nf na nb a b c d e f := by
  have h0 := Blk.new w 26 [.int .i64 nk, .float .f64 nf, .int .i64 na, .int .i64 nb]
  have h1 := Blk.new (w.alloc (.cells #[.int .i64 nk, .float .f64 nf, .int .i64 na, .int .i64 nb] 26)) 30 [.float .f64 a, .float .f64 b]
  rw [World.size_alloc] at h1
  have h2 := Blk.new ((w.alloc (.cells #[.int .i64 nk, .float .f64 nf, .int .i64 na, .int .i64 nb] 26)).alloc (.cells #[.float .f64 a, .float .f64 b] 30)) 30 [.float .f64 c, .float .f64 d]
  rw [World.size_alloc, World.size_alloc] at h2
  have h3 := Blk.new (((w.alloc (.cells #[.int .i64 nk, .float .f64 nf, .int .i64 na, .int .i64 nb] 26)).alloc (.cells #[.float .f64 a, .float .f64 b] 30)).alloc (.cells #[.float .f64 c, .float .f64 d] 30)) 30 [.float .f64 e, .float .f64 f]
  rw [World.size_alloc, World.size_alloc, World.size_alloc] at h3
  exact ⟨((((Only.refl [] w).alloc _).alloc _).alloc _).alloc _, ((h0.alloc _).alloc _).alloc _, (h1.alloc _).alloc _, h2.alloc _, h3⟩
end
set_option maxHeartbeats 800000 in
theorem comb_leaf (v : Nat) (na nb : Int) (a b c d x y : Nat) (hA : ∀ w : World, Calls Try.prog 11 #[.float .f64 v] w fun e w' => e = .returned (gpv x y) ∧ Only [] w w') (w : World) :
    Calls Try.prog 18 #[.agg #[.int .i64 0, .float .f64 v, .int .i64 na, .int .i64 nb], gpv a b, gpv c d] w fun e w' => e = .returned (gpv x y) ∧ Only [] w w' := by
  have S0 := Lib.hid (CB.new w 0 v na nb a b c d 0 0)
  have n0 := S0.out.bn.cell 0
  have n1 := S0.out.bn.cell 1
  have a0 := S0.out.b0.cell 0
  have a1 := S0.out.b0.cell 1
  have b0 := S0.out.b1.cell 0
  have b1 := S0.out.b1.cell 1
  have c0 := S0.out.b2.cell 0
  have c1 := S0.out.b2.cell 1
  have f0 := S0.out.b2.frozen 0
  have f1 := S0.out.b2.frozen 1
  simp only [List.getElem?_cons_zero, List.getElem?_cons_succ] at n0 n1 a0 a1 b0 b1 c0 c1
  go_enter Try.func18, Try.ntmps18
  go_wp2_with fail
  refine (hA _).mono ?_
  rintro e w2 ⟨rfl, ho2⟩
  have S2 := Lib.hid (S0.out.only ho2)
  clear n0 n1 a0 a1 b0 b1 c0 c1 f0 f1 S0 ho2
  have n0 := S2.out.bn.cell 0
  have n1 := S2.out.bn.cell 1
  have a0 := S2.out.b0.cell 0
  have a1 := S2.out.b0.cell 1
  have b0 := S2.out.b1.cell 0
  have b1 := S2.out.b1.cell 1
  have c0 := S2.out.b2.cell 0
  have c1 := S2.out.b2.cell 1
  have f0 := S2.out.b2.frozen 0
  have f1 := S2.out.b2.frozen 1
  simp only [List.getElem?_cons_zero, List.getElem?_cons_succ] at n0 n1 a0 a1 b0 b1 c0 c1
  go_wp2_with fail
  refine bodyPost_ret (v := .agg #[.float .f64 x, .float .f64 y]) (by simp [results, Try.results18, go_sem, c0, c1]) rfl ⟨rfl, ?_⟩
  have ho := S2.out.ho
  exact (ho.setCell (.inr (by show w.heap.size ≤ w.heap.size + 1 + 1 + 1; omega)) _).setCell (.inr (by show w.heap.size ≤ w.heap.size + 1 + 1 + 1; omega)) _
set_option maxHeartbeats 800000 in
theorem comb_add (nf : Nat) (na nb : Int) (a b c d x y : Nat) (hA : ∀ w : World, Calls Try.prog 28 #[gpv a b, gpv c d] w fun e w' => e = .returned (gpv x y) ∧ Only [] w w') (w : World) :
    Calls Try.prog 18 #[.agg #[.int .i64 1, .float .f64 nf, .int .i64 na, .int .i64 nb], gpv a b, gpv c d] w fun e w' => e = .returned (gpv x y) ∧ Only [] w w' := by
  have S0 := Lib.hid (CB.new w 1 nf na nb a b c d 0 0)
  have n0 := S0.out.bn.cell 0
  have n1 := S0.out.bn.cell 1
  have a0 := S0.out.b0.cell 0
  have a1 := S0.out.b0.cell 1
  have b0 := S0.out.b1.cell 0
  have b1 := S0.out.b1.cell 1
  have c0 := S0.out.b2.cell 0
  have c1 := S0.out.b2.cell 1
  have f0 := S0.out.b2.frozen 0
  have f1 := S0.out.b2.frozen 1
  simp only [List.getElem?_cons_zero, List.getElem?_cons_succ] at n0 n1 a0 a1 b0 b1 c0 c1
  go_enter Try.func18, Try.ntmps18
  go_wp2_with fail
  refine (hA _).mono ?_
  rintro e w2 ⟨rfl, ho2⟩
  have S2 := Lib.hid (S0.out.only ho2)
  clear n0 n1 a0 a1 b0 b1 c0 c1 f0 f1 S0 ho2
  have n0 := S2.out.bn.cell 0
  have n1 := S2.out.bn.cell 1
  have a0 := S2.out.b0.cell 0
  have a1 := S2.out.b0.cell 1
  have b0 := S2.out.b1.cell 0
  have b1 := S2.out.b1.cell 1
  have c0 := S2.out.b2.cell 0
  have c1 := S2.out.b2.cell 1
  have f0 := S2.out.b2.frozen 0
  have f1 := S2.out.b2.frozen 1
  simp only [List.getElem?_cons_zero, List.getElem?_cons_succ] at n0 n1 a0 a1 b0 b1 c0 c1
  go_wp2_with fail
  refine bodyPost_ret (v := .agg #[.float .f64 x, .float .f64 y]) (by simp [results, Try.results18, go_sem, c0, c1]) rfl ⟨rfl, ?_⟩
  have ho := S2.out.ho
  exact (ho.setCell (.inr (by show w.heap.size ≤ w.heap.size + 1 + 1 + 1; omega)) _).setCell (.inr (by show w.heap.size ≤ w.heap.size + 1 + 1 + 1; omega)) _
set_option maxHeartbeats 800000 in
theorem comb_mul (nf : Nat) (na nb : Int) (a b c d x y : Nat) (hA : ∀ w : World, Calls Try.prog 29 #[gpv a b, gpv c d] w fun e w' => e = .returned (gpv x y) ∧ Only [] w w') (w : World) :
    Calls Try.prog 18 #[.agg #[.int .i64 3, .float .f64 nf, .int .i64 na, .int .i64 nb], gpv a b, gpv c d] w fun e w' => e = .returned (gpv x y) ∧ Only [] w w' := by
  have S0 := Lib.hid (CB.new w 3 nf na nb a b c d 0 0)
  have n0 := S0.out.bn.cell 0
  have n1 := S0.out.bn.cell 1
  have a0 := S0.out.b0.cell 0
  have a1 := S0.out.b0.cell 1
  have b0 := S0.out.b1.cell 0
  have b1 := S0.out.b1.cell 1
  have c0 := S0.out.b2.cell 0
  have c1 := S0.out.b2.cell 1
  have f0 := S0.out.b2.frozen 0
  have f1 := S0.out.b2.frozen 1
  simp only [List.getElem?_cons_zero, List.getElem?_cons_succ] at n0 n1 a0 a1 b0 b1 c0 c1
  go_enter Try.func18, Try.ntmps18
  go_wp2_with fail
  refine (hA _).mono ?_
  rintro e w2 ⟨rfl, ho2⟩
  have S2 := Lib.hid (S0.out.only ho2)
  clear n0 n1 a0 a1 b0 b1 c0 c1 f0 f1 S0 ho2
  have n0 := S2.out.bn.cell 0
  have n1 := S2.out.bn.cell 1
  have a0 := S2.out.b0.cell 0
  have a1 := S2.out.b0.cell 1
  have b0 := S2.out.b1.cell 0
  have b1 := S2.out.b1.cell 1
  have c0 := S2.out.b2.cell 0
  have c1 := S2.out.b2.cell 1
  have f0 := S2.out.b2.frozen 0
  have f1 := S2.out.b2.frozen 1
  simp only [List.getElem?_cons_zero, List.getElem?_cons_succ] at n0 n1 a0 a1 b0 b1 c0 c1
  go_wp2_with fail
  refine bodyPost_ret (v := .agg #[.float .f64 x, .float .f64 y]) (by simp [results, Try.results18, go_sem, c0, c1]) rfl ⟨rfl, ?_⟩
  have ho := S2.out.ho
  exact (ho.setCell (.inr (by show w.heap.size ≤ w.heap.size + 1 + 1 + 1; omega)) _).setCell (.inr (by show w.heap.size ≤ w.heap.size + 1 + 1 + 1; omega)) _
set_option maxHeartbeats 800000 in
theorem comb_root (nf : Nat) (na nb : Int) (a b c d x y : Nat) (hA : ∀ w : World, Calls Try.prog 31 #[gpv a b] w fun e w' => e = .returned (gpv x y) ∧ Only [] w w') (w : World) :
    Calls Try.prog 18 #[.agg #[.int .i64 5, .float .f64 nf, .int .i64 na, .int .i64 nb], gpv a b, gpv c d] w fun e w' => e = .returned (gpv x y) ∧ Only [] w w' := by
  have S0 := Lib.hid (CB.new w 5 nf na nb a b c d 0 0)
  have n0 := S0.out.bn.cell 0
  have n1 := S0.out.bn.cell 1
  have a0 := S0.out.b0.cell 0
  have a1 := S0.out.b0.cell 1
  have b0 := S0.out.b1.cell 0
  have b1 := S0.out.b1.cell 1
  have c0 := S0.out.b2.cell 0
  have c1 := S0.out.b2.cell 1
  have f0 := S0.out.b2.frozen 0
  have f1 := S0.out.b2.frozen 1
  simp only [List.getElem?_cons_zero, List.getElem?_cons_succ] at n0 n1 a0 a1 b0 b1 c0 c1
  go_enter Try.func18, Try.ntmps18
  go_wp2_with fail
  refine (hA _).mono ?_
  rintro e w2 ⟨rfl, ho2⟩
  have S2 := Lib.hid (S0.out.only ho2)
  clear n0 n1 a0 a1 b0 b1 c0 c1 f0 f1 S0 ho2
  have n0 := S2.out.bn.cell 0
  have n1 := S2.out.bn.cell 1
  have a0 := S2.out.b0.cell 0
  have a1 := S2.out.b0.cell 1
  have b0 := S2.out.b1.cell 0
  have b1 := S2.out.b1.cell 1
  have c0 := S2.out.b2.cell 0
  have c1 := S2.out.b2.cell 1
  have f0 := S2.out.b2.frozen 0
  have f1 := S2.out.b2.frozen 1
  simp only [List.getElem?_cons_zero, List.getElem?_cons_succ] at n0 n1 a0 a1 b0 b1 c0 c1
  go_wp2_with fail
  refine bodyPost_ret (v := .agg #[.float .f64 x, .float .f64 y]) (by simp [results, Try.results18, go_sem, c0, c1]) rfl ⟨rfl, ?_⟩
  have ho := S2.out.ho
  exact (ho.setCell (.inr (by show w.heap.size ≤ w.heap.size + 1 + 1 + 1; omega)) _).setCell (.inr (by show w.heap.size ≤ w.heap.size + 1 + 1 + 1; omega)) _
set_option maxHeartbeats 800000 in
theorem comb_sub (nf : Nat) (na nb : Int) (a b c d c' d' x y : Nat) (h1 : Op.negFloat .f64 d = c') (h2 : Op.negFloat .f64 c = d') (hA : ∀ w : World, Calls Try.prog 28 #[gpv a b, gpv c' d'] w fun e w' => e = .returned (gpv x y) ∧ Only [] w w') (w : World) :
    Calls Try.prog 18 #[.agg #[.int .i64 2, .float .f64 nf, .int .i64 na, .int .i64 nb], gpv a b, gpv c d] w fun e w' => e = .returned (gpv x y) ∧ Only [] w w' := by
  have S0 := Lib.hid (CB.new w 2 nf na nb a b c d 0 0)
  have n0 := S0.out.bn.cell 0
  have n1 := S0.out.bn.cell 1
  have a0 := S0.out.b0.cell 0
  have a1 := S0.out.b0.cell 1
  have b0 := S0.out.b1.cell 0
  have b1 := S0.out.b1.cell 1
  have c0 := S0.out.b2.cell 0
  have c1 := S0.out.b2.cell 1
  have f0 := S0.out.b2.frozen 0
  have f1 := S0.out.b2.frozen 1
  simp only [List.getElem?_cons_zero, List.getElem?_cons_succ] at n0 n1 a0 a1 b0 b1 c0 c1
  have g0 := S0.out.b1.frozen 0
  have g1 := S0.out.b1.frozen 1
  have m1 : ∀ w : World, (Op.unary .neg (.float .f64 d)).run Try.prog w = .ok (.float .f64 c') w := fun w => by rw [← h1]; rfl
  have m2 : ∀ w : World, (Op.unary .neg (.float .f64 c)).run Try.prog w = .ok (.float .f64 d') w := fun w => by rw [← h2]; rfl
  go_enter Try.func18, Try.ntmps18
  go_upto_region 9 with fail
  clear n0 n1 a0 a1 b0 b1 c0 c1 f0 f1 g0 g1 S0
  have S0 := Lib.hid (CB.new w 2 nf na nb a b c' d' 0 0)
  have n0 := S0.out.bn.cell 0
  have n1 := S0.out.bn.cell 1
  have a0 := S0.out.b0.cell 0
  have a1 := S0.out.b0.cell 1
  have b0 := S0.out.b1.cell 0
  have b1 := S0.out.b1.cell 1
  have c0 := S0.out.b2.cell 0
  have c1 := S0.out.b2.cell 1
  have f0 := S0.out.b2.frozen 0
  have f1 := S0.out.b2.frozen 1
  simp only [List.getElem?_cons_zero, List.getElem?_cons_succ] at n0 n1 a0 a1 b0 b1 c0 c1
  go_wp2_with fail
  refine (hA _).mono ?_
  rintro e w2 ⟨rfl, ho2⟩
  have S2 := Lib.hid (S0.out.only ho2)
  clear n0 n1 a0 a1 b0 b1 c0 c1 f0 f1 S0 ho2
  have n0 := S2.out.bn.cell 0
  have n1 := S2.out.bn.cell 1
  have a0 := S2.out.b0.cell 0
  have a1 := S2.out.b0.cell 1
  have b0 := S2.out.b1.cell 0
  have b1 := S2.out.b1.cell 1
  have c0 := S2.out.b2.cell 0
  have c1 := S2.out.b2.cell 1
  have f0 := S2.out.b2.frozen 0
  have f1 := S2.out.b2.frozen 1
  simp only [List.getElem?_cons_zero, List.getElem?_cons_succ] at n0 n1 a0 a1 b0 b1 c0 c1
  go_wp2_with fail
  refine bodyPost_ret (v := .agg #[.float .f64 x, .float .f64 y]) (by simp [results, Try.results18, go_sem, c0, c1]) rfl ⟨rfl, ?_⟩
  have ho := S2.out.ho
  exact (ho.setCell (.inr (by show w.heap.size ≤ w.heap.size + 1 + 1 + 1; omega)) _).setCell (.inr (by show w.heap.size ≤ w.heap.size + 1 + 1 + 1; omega)) _
end Go.Proofs.Ytmjnifjohfljaaa
