/-
  Gaps: unknown, IsInf, Step at 6, around, Mul, Quo: what alive needs; alive.
-/
import Derived.Test.YtkiongpfpjfaaaaGapA
import Derived.WalkLawsBesides
namespace Go.Proofs.Ytkiongpfpjfaaaa
open Go.RowKit
set_option linter.unusedSimpArgs false
attribute [local go_sem] run_store_float

set_option maxHeartbeats 400000 in
theorem unknown_any (lo hi lo2 hi2 : Nat) (hlo : Hid (lo < 2 ^ 64)) (hhi : Hid (hi < 2 ^ 64)) (hlo2 : Hid (lo2 < 2 ^ 64)) (hhi2 : Hid (hi2 < 2 ^ 64)) (w : World) (hk : Hid ((finB lo && finB hi && leB lo hi) = true)) (hk2 : Hid ((finB lo2 && finB hi2 && leB lo2 hi2) = true)) :
    Calls Try.prog 47 #[.agg #[.float .f64 lo, .float .f64 hi], .agg #[.float .f64 lo2, .float .f64 hi2]] w fun e w' => e = .returned (.bool false) ∧ Only [] w w' := by
  have hB := Blk.new w 38 [.float .f64 lo, .float .f64 hi]
  have ho := Lib.hid ((only_new w [.float .f64 lo, .float .f64 hi] 38).alloc (.cells #[.float .f64 lo2, .float .f64 hi2] 38))
  have hB2 := Blk.new (w.alloc (.cells #[.float .f64 lo, .float .f64 hi] 38)) 38 [.float .f64 lo2, .float .f64 hi2]
  have hB' := hB.alloc (.cells #[.float .f64 lo2, .float .f64 hi2] 38)
  have e : (w.alloc (.cells #[.float .f64 lo, .float .f64 hi] 38)).heap.size = w.heap.size + 1 := World.size_alloc w _
  have hB3 : Blk ((w.alloc (.cells #[.float .f64 lo, .float .f64 hi] 38)).alloc (.cells #[.float .f64 lo2, .float .f64 hi2] 38)) (w.heap.size + 1) 38 [.float .f64 lo2, .float .f64 hi2] := by rw [← e]; exact hB2
  clear e hB2
  go_enter Try.func47, Try.ntmps47
  go_wp2_with fail
  (with_reducible refine (known_any lo hi hlo.out hhi.out _).mono ?_)
  rw [hk.out]
  rintro e w' ⟨rfl, ho1⟩
  have hC := hB3.only ho1 (by simp)
  have c0 := hC.cell 0
  have c1 := hC.cell 1
  simp only [List.getElem?_cons_zero, List.getElem?_cons_succ] at c0 c1
  have Ho1 := Lib.hid ho1
  clear ho1 hB3 hB' hB
  go_wp2_with fail
  (with_reducible refine (known_any lo2 hi2 hlo2.out hhi2.out _).mono ?_)
  rw [hk2.out]
  rintro e w'' ⟨rfl, ho2⟩
  go_wp2_with fail
  go_ret
  exact ⟨by simp, ho.out.nil_trans (Ho1.out.nil_trans ho2)⟩

theorem isinf_6p (w : World) : Calls Try.prog 17 #[.float .f64 4618441417868443648, .int .i64 (1)] w fun e w' => e = .returned (.bool false) ∧ w = w' := by
  have ho : FloatKind.f64.format.order 4618441417868443648 9218868437227405311 = some .lt := by kernel_rfl
  go_enter Try.func17, Try.ntmps17
  go_wp2_with fail
  go_ret
  exact ⟨by simp, rfl⟩

theorem isinf_6n (w : World) : Calls Try.prog 17 #[.float .f64 4618441417868443648, .int .i64 (-1)] w fun e w' => e = .returned (.bool false) ∧ w = w' := by
  have hn : ∀ w : World, (Op.unary UnOp.neg (.float .f64 4618441417868443648)).run Try.prog w = .ok (.float .f64 13841813454723219456) w := fun w => by kernel_rfl
  have ho : FloatKind.f64.format.order 13841813454723219456 9218868437227405311 = some .lt := by kernel_rfl
  go_enter Try.func17, Try.ntmps17
  go_wp2_with fail
  go_ret
  exact ⟨by simp, rfl⟩

theorem isinf_n (w : World) : Calls Try.prog 17 #[.float .f64 18442240474082181120, .int .i64 (-1)] w fun e w' => e = .returned (.bool true) ∧ w = w' := by
  have hn : ∀ w : World, (Op.unary UnOp.neg (.float .f64 18442240474082181120)).run Try.prog w = .ok (.float .f64 9218868437227405312) w := fun w => by kernel_rfl
  have ho : FloatKind.f64.format.order 9218868437227405312 9218868437227405311 = some .gt := by kernel_rfl
  go_enter Try.func17, Try.ntmps17
  go_wp2_with fail
  go_ret
  exact ⟨by simp, rfl⟩

theorem isinf_p (w : World) : Calls Try.prog 17 #[.float .f64 9218868437227405312, .int .i64 (1)] w fun e w' => e = .returned (.bool true) ∧ w = w' := by
  have ho : FloatKind.f64.format.order 9218868437227405312 9218868437227405311 = some .gt := by kernel_rfl
  go_enter Try.func17, Try.ntmps17
  go_wp2_with fail
  go_ret
  exact ⟨by simp, rfl⟩

theorem isnan_fin (v : Nat) (w : World) (ho : FloatKind.f64.format.order v v = some .eq) : Calls Try.prog 52 #[.float .f64 v] w fun e w' => e = .returned (.bool false) ∧ w = w' := by
  go_enter Try.func52, Try.ntmps52
  go_wp2_with fail
  go_ret
  exact ⟨by simp, rfl⟩

theorem step_6d (w : World) : Calls Try.prog 51 #[.float .f64 4618441417868443648, .int .i64 (-1)] w fun e w' => e = .returned (.float .f64 4618441417868443647) ∧ w = w' := by
  have hb : ∀ w : World, (callFunc 36 #[.float .f64 4618441417868443648]).run Try.prog w = .ok (.value (.int .u64 4618441417868443648)) w := fun w => bits_run 4618441417868443648 w
  have hf : ∀ w : World, (callFunc 49 #[.int .u64 4618441417868443647]).run Try.prog w = .ok (.value (.float .f64 4618441417868443647)) w := fun w => frombits_run 4618441417868443647 w
  have o1 : FloatKind.f64.format.order 4618441417868443648 4618441417868443648 = some .eq := by kernel_rfl
  have o2 : FloatKind.f64.format.order 4618441417868443648 0 = some .gt := by kernel_rfl
  go_enter Try.func51, Try.ntmps51
  go_wp2_with (first | (go_at_call 52; (with_reducible refine (isnan_fin _ _ o1).mono ?_); rintro e w' ⟨rfl, rfl⟩) | (go_at_call 17; (with_reducible refine (isinf_6p _).mono ?_); rintro e w' ⟨rfl, rfl⟩) | (go_at_call 17; (with_reducible refine (isinf_6n _).mono ?_); rintro e w' ⟨rfl, rfl⟩))
  go_ret
  exact ⟨by simp, rfl⟩

theorem step_6u (w : World) : Calls Try.prog 51 #[.float .f64 4618441417868443648, .int .i64 (1)] w fun e w' => e = .returned (.float .f64 4618441417868443649) ∧ w = w' := by
  have hb : ∀ w : World, (callFunc 36 #[.float .f64 4618441417868443648]).run Try.prog w = .ok (.value (.int .u64 4618441417868443648)) w := fun w => bits_run 4618441417868443648 w
  have hf : ∀ w : World, (callFunc 49 #[.int .u64 4618441417868443649]).run Try.prog w = .ok (.value (.float .f64 4618441417868443649)) w := fun w => frombits_run 4618441417868443649 w
  have o1 : FloatKind.f64.format.order 4618441417868443648 4618441417868443648 = some .eq := by kernel_rfl
  have o2 : FloatKind.f64.format.order 4618441417868443648 0 = some .gt := by kernel_rfl
  go_enter Try.func51, Try.ntmps51
  go_wp2_with (first | (go_at_call 52; (with_reducible refine (isnan_fin _ _ o1).mono ?_); rintro e w' ⟨rfl, rfl⟩) | (go_at_call 17; (with_reducible refine (isinf_6p _).mono ?_); rintro e w' ⟨rfl, rfl⟩) | (go_at_call 17; (with_reducible refine (isinf_6n _).mono ?_); rintro e w' ⟨rfl, rfl⟩))
  go_ret
  exact ⟨by simp, rfl⟩

theorem two_new (w : World) (a b : List Value) (t t' : TypeId) : Blk ((w.alloc (.cells a.toArray t)).alloc (.cells b.toArray t')) w.heap.size t a ∧ Blk ((w.alloc (.cells a.toArray t)).alloc (.cells b.toArray t')) (w.heap.size + 1) t' b ∧ Only [] w ((w.alloc (.cells a.toArray t)).alloc (.cells b.toArray t')) := by
  have e : (w.alloc (.cells a.toArray t)).heap.size = w.heap.size + 1 := World.size_alloc w _
  have h := Blk.new (w.alloc (.cells a.toArray t)) t' b
  rw [e] at h
  exact ⟨(Blk.new w t a).alloc _, h, (only_new w a t).alloc _⟩

set_option maxHeartbeats 400000 in
theorem around_6 (w : World) : Calls Try.prog 48 #[.float .f64 4618441417868443648, .float .f64 4618441417868443648] w fun e w' => e = .returned (.agg #[.float .f64 4618441417868443647, .float .f64 4618441417868443649]) ∧ Only [] w w' := by
  obtain ⟨hB1, hB2, ho⟩ := two_new w [.float .f64 0, .float .f64 0] [.float .f64 4618441417868443647, .float .f64 4618441417868443649] 38 38
  have hk : (finB 4618441417868443647 && finB 4618441417868443649 && leB 4618441417868443647 4618441417868443649) = true := by kernel_rfl
  go_enter Try.func48, Try.ntmps48
  go_wp2_with (first | (go_at_call 51; (with_reducible refine (step_6d _).mono ?_); rintro e w' ⟨rfl, rfl⟩) | (go_at_call 51; (with_reducible refine (step_6u _).mono ?_); rintro e w' ⟨rfl, rfl⟩) | (go_at_call 16; (with_reducible refine (known_any _ _ (by decide) (by decide) _).mono ?_); rw [hk]; rintro e w' ⟨rfl, ho1⟩; have c0 := (hB2.only ho1 (by simp)).cell 0; have c1 := (hB2.only ho1 (by simp)).cell 1; have d0 := (hB1.only ho1 (by simp)).cell 0; have d1 := (hB1.only ho1 (by simp)).cell 1; have f0 := (hB1.only ho1 (by simp)).frozen 0; have f1 := (hB1.only ho1 (by simp)).frozen 1; simp only [List.getElem?_cons_zero, List.getElem?_cons_succ] at c0 c1 d0 d1))
  refine bodyPost_ret (v := .agg #[.float .f64 4618441417868443647, .float .f64 4618441417868443649]) (by simp [results, Try.results48, go_sem, d0, d1]) rfl ⟨rfl, ?_⟩
  exact ((ho.nil_trans ho1).setCell (.inr (Nat.le_refl _)) _).setCell (.inr (Nat.le_refl _)) _

theorem three_new (w : World) (a b c : List Value) (t : TypeId) : Blk (((w.alloc (.cells a.toArray t)).alloc (.cells b.toArray t)).alloc (.cells c.toArray t)) w.heap.size t a ∧ Blk (((w.alloc (.cells a.toArray t)).alloc (.cells b.toArray t)).alloc (.cells c.toArray t)) (w.heap.size + 1) t b ∧
    Blk (((w.alloc (.cells a.toArray t)).alloc (.cells b.toArray t)).alloc (.cells c.toArray t)) (w.heap.size + 1 + 1) t c ∧ Only [] w (((w.alloc (.cells a.toArray t)).alloc (.cells b.toArray t)).alloc (.cells c.toArray t)) := by
  obtain ⟨h1, h2, h3⟩ := two_new w a b t t
  have e : ((w.alloc (.cells a.toArray t)).alloc (.cells b.toArray t)).heap.size = w.heap.size + 1 + 1 := by rw [World.size_alloc, World.size_alloc]
  have h := Blk.new ((w.alloc (.cells a.toArray t)).alloc (.cells b.toArray t)) t c
  rw [e] at h
  exact ⟨h1.alloc _, h2.alloc _, h, h3.alloc _⟩
theorem lt64 (v : Nat) (h : decide (v < 18446744073709551616) = true) : Hid (v < 2 ^ 64) := by have := of_decide_eq_true h; show v < 2 ^ 64; omega

/-- Three blocks of two floats each, in a world that is w but for new blocks. -/
structure Six (w w' : World) (a b c d e f : Nat) : Prop where
  ho : Only [] w w'
  b0 : Blk w' w.heap.size 38 [.float .f64 a, .float .f64 b]
  b1 : Blk w' (w.heap.size + 1) 38 [.float .f64 c, .float .f64 d]
  b2 : Blk w' (w.heap.size + 1 + 1) 38 [.float .f64 e, .float .f64 f]
theorem Six.only {w w' w'' : World} {a b c d e f : Nat} (h : Six w w' a b c d e f) (ho : Only [] w' w'') : Six w w'' a b c d e f := ⟨h.ho.nil_trans ho, h.b0.only ho (by simp), h.b1.only ho (by simp), h.b2.only ho (by simp)⟩
theorem Six.new (w : World) (a b c d e f : Nat) : Six w (((w.alloc (.cells #[.float .f64 a, .float .f64 b] 38)).alloc (.cells #[.float .f64 c, .float .f64 d] 38)).alloc (.cells #[.float .f64 e, .float .f64 f] 38)) a b c d e f := by
  obtain ⟨h1, h2, h3, h4⟩ := three_new w [.float .f64 a, .float .f64 b] [.float .f64 c, .float .f64 d] [.float .f64 e, .float .f64 f] 38
  exact ⟨h4, h1, h2, h3⟩

set_option maxHeartbeats 800000 in
theorem mul_23 (w : World) : Calls Try.prog 37 #[.agg #[.float .f64 4611686018427387904, .float .f64 4611686018427387904], .agg #[.float .f64 4613937818241073152, .float .f64 4613937818241073152]] w fun e w' => e = .returned (.agg #[.float .f64 4618441417868443647, .float .f64 4618441417868443649]) ∧ Only [] w w' := by
  have hk : Hid ((finB 4611686018427387904 && finB 4611686018427387904 && leB 4611686018427387904 4611686018427387904) = true) := by show _ = true; kernel_rfl
  have hk2 : Hid ((finB 4613937818241073152 && finB 4613937818241073152 && leB 4613937818241073152 4613937818241073152) = true) := by show _ = true; kernel_rfl
  have m1 : ∀ w : World, (binOp .mul 30 (.float .f64 4611686018427387904) (.float .f64 4613937818241073152)).run Try.prog w = .ok (.float .f64 4618441417868443648) w := fun w => run_float_arith w .mul 30 .f64 _ _ _ (by kernel_rfl)
  have S0 := Lib.hid (Six.new w 4611686018427387904 4611686018427387904 4613937818241073152 4613937818241073152 0 0)
  go_enter Try.func37, Try.ntmps37
  go_wp2_with fail
  refine (unknown_any _ _ _ _ (lt64 _ rfl) (lt64 _ rfl) (lt64 _ rfl) (lt64 _ rfl) _ hk hk2).mono ?_
  rintro e w' ⟨rfl, ho1⟩
  have S1 := Lib.hid (S0.out.only ho1)
  clear ho1 S0
  have a0 := S1.out.b0.cell 0
  have a1 := S1.out.b0.cell 1
  have b0 := S1.out.b1.cell 0
  have b1 := S1.out.b1.cell 1
  have c0 := S1.out.b2.cell 0
  have c1 := S1.out.b2.cell 1
  have f0 := S1.out.b2.frozen 0
  have f1 := S1.out.b2.frozen 1
  simp only [List.getElem?_cons_zero, List.getElem?_cons_succ] at a0 a1 b0 b1 c0 c1
  have hmin : ∀ w : World, (Builtin.min_ #[30, 30, 30, 30] 30 #[.float .f64 4618441417868443648, .float .f64 4618441417868443648, .float .f64 4618441417868443648, .float .f64 4618441417868443648]).run Try.prog w = .ok (.float .f64 4618441417868443648) w := fun w => by kernel_rfl
  have hmax : ∀ w : World, (Builtin.max_ #[30, 30, 30, 30] 30 #[.float .f64 4618441417868443648, .float .f64 4618441417868443648, .float .f64 4618441417868443648, .float .f64 4618441417868443648]).run Try.prog w = .ok (.float .f64 4618441417868443648) w := fun w => by kernel_rfl
  go_wp2_with fail
  go_quiet (fail)
  go_wp2_with fail
  refine (around_6 _).mono ?_
  rintro e w2 ⟨rfl, ho2⟩
  have S2 := Lib.hid (S1.out.only ((Only.refl _ _).drewN _ |>.nil_trans ho2))
  clear a0 a1 b0 b1 c0 c1 f0 f1 S1 ho2 hmin hmax m1
  have a0 := S2.out.b0.cell 0
  have a1 := S2.out.b0.cell 1
  have b0 := S2.out.b1.cell 0
  have b1 := S2.out.b1.cell 1
  have c0 := S2.out.b2.cell 0
  have c1 := S2.out.b2.cell 1
  have f0 := S2.out.b2.frozen 0
  have f1 := S2.out.b2.frozen 1
  simp only [List.getElem?_cons_zero, List.getElem?_cons_succ] at a0 a1 b0 b1 c0 c1
  go_wp2_with fail
  refine bodyPost_ret (v := .agg #[.float .f64 4618441417868443647, .float .f64 4618441417868443649]) (by simp [results, Try.results37, go_sem, c0, c1]) rfl ⟨rfl, ?_⟩
  have ho := S2.out.ho
  exact (ho.setCell (.inr (by show w.heap.size ≤ w.heap.size + 1 + 1; omega)) _).setCell (.inr (by show w.heap.size ≤ w.heap.size + 1 + 1; omega)) _

set_option maxHeartbeats 800000 in
theorem quo_10 (w : World) : Calls Try.prog 38 #[.agg #[.float .f64 4607182418800017408, .float .f64 4607182418800017408], .agg #[.float .f64 0, .float .f64 0]] w fun e w' => e = .returned (.agg #[.float .f64 18442240474082181120, .float .f64 9218868437227405312]) ∧ Only [] w w' := by
  have hk : Hid ((finB 4607182418800017408 && finB 4607182418800017408 && leB 4607182418800017408 4607182418800017408) = true) := by show _ = true; kernel_rfl
  have hk2 : Hid ((finB 0 && finB 0 && leB 0 0) = true) := by show _ = true; kernel_rfl
  have o0 : FloatKind.f64.format.order 0 0 = some .eq := by kernel_rfl
  have S0 := Lib.hid (Six.new w 4607182418800017408 4607182418800017408 0 0 0 0)
  go_enter Try.func38, Try.ntmps38
  go_wp2_with fail
  refine (unknown_any _ _ _ _ (lt64 _ rfl) (lt64 _ rfl) (lt64 _ rfl) (lt64 _ rfl) _ hk hk2).mono ?_
  rintro e w' ⟨rfl, ho1⟩
  have S1 := Lib.hid (S0.out.only ho1)
  clear ho1 S0
  have a0 := S1.out.b0.cell 0
  have a1 := S1.out.b0.cell 1
  have b0 := S1.out.b1.cell 0
  have b1 := S1.out.b1.cell 1
  have c0 := S1.out.b2.cell 0
  have c1 := S1.out.b2.cell 1
  have f0 := S1.out.b2.frozen 0
  have f1 := S1.out.b2.frozen 1
  simp only [List.getElem?_cons_zero, List.getElem?_cons_succ] at a0 a1 b0 b1 c0 c1
  go_wp2_with fail
  refine (all_any _).mono ?_
  rintro e w2 ⟨rfl, ho2⟩
  have S2 := Lib.hid (S1.out.only ho2)
  clear a0 a1 b0 b1 c0 c1 f0 f1 S1 ho2
  have a0 := S2.out.b0.cell 0
  have a1 := S2.out.b0.cell 1
  have b0 := S2.out.b1.cell 0
  have b1 := S2.out.b1.cell 1
  have c0 := S2.out.b2.cell 0
  have c1 := S2.out.b2.cell 1
  have f0 := S2.out.b2.frozen 0
  have f1 := S2.out.b2.frozen 1
  simp only [List.getElem?_cons_zero, List.getElem?_cons_succ] at a0 a1 b0 b1 c0 c1
  go_wp2_with fail
  refine bodyPost_ret (v := .agg #[.float .f64 18442240474082181120, .float .f64 9218868437227405312]) (by simp [results, Try.results38, go_sem, c0, c1]) rfl ⟨rfl, ?_⟩
  have ho := S2.out.ho
  exact (ho.setCell (.inr (by show w.heap.size ≤ w.heap.size + 1 + 1; omega)) _).setCell (.inr (by show w.heap.size ≤ w.heap.size + 1 + 1; omega)) _

set_option maxHeartbeats 1600000 in
theorem alive7_any (w : World) : Calls Try.prog 13 #[] w fun e w' => e = .returned (.bool true) ∧ Only [] w w' := by
  have hk6 : (finB 4618441417868443647 && finB 4618441417868443649 && leB 4618441417868443647 4618441417868443649) = true := by kernel_rfl
  have hk2 : (finB 4611686018427387904 && finB 4611686018427387904 && leB 4611686018427387904 4611686018427387904) = true := by kernel_rfl
  have g2 : ord 4611686018427387904 0 = some .gt := by kernel_rfl
  have o1 : FloatKind.f64.format.order 4618441417868443647 4618441417868443648 = some .lt := by kernel_rfl
  have o2 : FloatKind.f64.format.order 4618441417868443649 4618441417868443648 = some .gt := by kernel_rfl
  go_enter Try.func13, Try.ntmps13
  go_wp2_with fail
  refine (at_yes _ (lt64 _ rfl) (by kernel_rfl) _).mono ?_
  rintro e w1 ⟨rfl, h1⟩
  go_wp2_with fail
  refine (at_yes _ (lt64 _ rfl) (by kernel_rfl) _).mono ?_
  rintro e w2 ⟨rfl, h2⟩
  have H2 := Lib.hid (h1.nil_trans h2)
  clear h1 h2
  go_wp2_with fail
  refine (mul_23 _).mono ?_
  rintro e w3 ⟨rfl, h3⟩
  have H3 := Lib.hid (H2.out.nil_trans h3)
  clear H2 h3
  have hB := Lib.hid (Blk.new w3 38 [.float .f64 4618441417868443647, .float .f64 4618441417868443649])
  have HA := Lib.hid (H3.out.nil_trans (only_new w3 [.float .f64 4618441417868443647, .float .f64 4618441417868443649] 38))
  have hsub : ∀ w : World, (binOp .sub 30 (.float .f64 4618441417868443649) (.float .f64 4618441417868443647)).run Try.prog w = .ok (.float .f64 4386506037058863104) w := fun w => run_float_arith w .sub 30 .f64 _ _ _ (by kernel_rfl)
  have o3 : FloatKind.f64.format.order 4386506037058863104 4427486594234968593 = some .lt := by kernel_rfl
  go_wp2_with fail
  refine (at_yes _ (lt64 _ rfl) (by kernel_rfl) _).mono ?_
  rintro e w4 ⟨rfl, h4⟩
  have hB4 := Lib.hid (hB.out.only h4 (by simp))
  have H4 := Lib.hid (HA.out.nil_trans h4)
  clear hB HA h4 H3
  go_wp2_with fail
  refine (sign_any _ _ (by decide) (by decide) _ hk2).mono ?_
  rw [if_pos g2, if_pos g2]
  rintro e w5 ⟨rfl, h5⟩
  have hB5 := Lib.hid (hB4.out.only h5 (by simp))
  have H5 := Lib.hid (H4.out.nil_trans h5)
  clear hB4 H4 h5
  have c0 := hB5.out.cell 0
  have c1 := hB5.out.cell 1
  simp only [List.getElem?_cons_zero, List.getElem?_cons_succ] at c0 c1
  go_wp2_with fail
  refine (known_any _ _ (by decide) (by decide) _).mono ?_
  rw [hk6]
  rintro e w6 ⟨rfl, h6⟩
  have hB6 := Lib.hid (hB5.out.only h6 (by simp))
  have H6 := Lib.hid (H5.out.nil_trans h6)
  clear hB5 H5 h6 c0 c1
  have c0 := hB6.out.cell 0
  have c1 := hB6.out.cell 1
  simp only [List.getElem?_cons_zero, List.getElem?_cons_succ] at c0 c1
  go_wp2_with fail
  refine (at_yes _ (lt64 _ rfl) (by kernel_rfl) _).mono ?_
  rintro e w7 ⟨rfl, h7⟩
  have H7 := Lib.hid (H6.out.nil_trans h7)
  clear c0 c1 hB6 h7 H6
  go_wp2_with fail
  refine (at_yes _ (lt64 _ rfl) (by kernel_rfl) _).mono ?_
  rintro e w8 ⟨rfl, h8⟩
  have H8 := Lib.hid (H7.out.nil_trans h8)
  clear h8 H7
  go_wp2_with fail
  refine (quo_10 _).mono ?_
  rintro e w9 ⟨rfl, h9⟩
  have H9 := Lib.hid (H8.out.nil_trans h9)
  clear h9 H8
  have hkn : (finB 18442240474082181120 && finB 9218868437227405312 && leB 18442240474082181120 9218868437227405312) = false := by kernel_rfl
  go_wp2_with fail
  refine (known_any _ _ (by decide) (by decide) _).mono ?_
  rw [hkn]
  rintro e wa ⟨rfl, ha⟩
  go_wp2_with fail
  go_ret
  exact ⟨by simp, H9.out.nil_trans ha⟩
end Go.Proofs.Ytkiongpfpjfaaaa
