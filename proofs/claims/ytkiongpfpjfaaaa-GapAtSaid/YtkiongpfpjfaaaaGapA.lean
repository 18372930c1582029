/-
  Gaps: Known, All, At, Sign.
-/
import Derived.Test.YtkiongpfpjfaaaaPlain
namespace Go.Proofs.Ytkiongpfpjfaaaa
open Go.RowKit
set_option linter.unusedSimpArgs false

theorem run_store_float (P : Program) (w : World) (a : Addr) (k : FloatKind) (n : Nat) (m : Mode) : (store a (.float k n) m).run P w = stored P w a (.float k n) m := run_store P w a _ m rfl
attribute [local go_sem] run_store_float

abbrev ord (x y : Nat) : Option Ordering := FloatKind.f64.format.order x y
def leB (x y : Nat) : Bool := ord x y == some .lt || ord x y == some .eq

theorem frombits_run (n : Nat) (w : World) : (callFunc 49 #[.int .u64 (n : Int)]).run Try.prog w = .ok (.value (.float .f64 n)) w := by kernel_rfl

set_option maxHeartbeats 400000 in
theorem known_any (lo hi : Nat) (hlo : lo < 2 ^ 64) (hhi : hi < 2 ^ 64) (w : World) :
    Calls Try.prog 16 #[.agg #[.float .f64 lo, .float .f64 hi]] w fun e w' => e = .returned (.bool (finB lo && finB hi && leB lo hi)) ∧ Only [] w w' := by
  have Hlo := Lib.hid hlo
  have Hhi := Lib.hid hhi
  have ho := (Only.refl [] w).alloc (.cells #[.float .f64 lo, .float .f64 hi] 38)
  cases h1 : finB lo <;> cases h2 : finB hi
  all_goals
    go_enter Try.func16, Try.ntmps16
    go_wp2_with (go_at_call 39; (with_reducible refine (finite_any _ (by first | exact Hlo.out | exact Hhi.out) _).mono ?_); rintro e w' ⟨rfl, rfl⟩)
    all_goals go_ret
    all_goals exact ⟨by simp [leB, ord], ho⟩


set_option maxHeartbeats 400000 in
theorem inf_any (s : Int) (w : World) (h : s = -1 ∨ s = 1) :
    Calls Try.prog 40 #[.int .i64 s] w fun e w' => e = .returned (.float .f64 (if s = 1 then 9218868437227405312 else 18442240474082181120)) ∧ w = w' := by
  have f1 : (callFunc 49 #[.int .u64 18442240474082181120]).run Try.prog w = .ok (.value (.float .f64 18442240474082181120)) w := frombits_run 18442240474082181120 w
  have f2 : (callFunc 49 #[.int .u64 9218868437227405312]).run Try.prog w = .ok (.value (.float .f64 9218868437227405312)) w := frombits_run 9218868437227405312 w
  rcases h with rfl | rfl
  all_goals
    go_enter Try.func40, Try.ntmps40
    go_wp2_with fail
    all_goals go_ret
    all_goals exact ⟨by simp, rfl⟩

theorem only_new (w : World) (cs : List Value) (t : TypeId) : Only [] w (w.alloc (.cells cs.toArray t)) := (Only.refl [] w).alloc _

set_option maxHeartbeats 400000 in
theorem all_any (w : World) : Calls Try.prog 15 #[] w fun e w' => e = .returned (.agg #[.float .f64 18442240474082181120, .float .f64 9218868437227405312]) ∧ Only [] w w' := by
  go_enter Try.func15, Try.ntmps15
  go_wp2_with (go_at_call 40; (with_reducible refine (inf_any _ _ (by first | exact .inl rfl | exact .inr rfl)).mono ?_); rintro e w' ⟨rfl, rfl⟩)
  refine bodyPost_ret (v := .agg #[.float .f64 18442240474082181120, .float .f64 9218868437227405312]) (by simp [results, Try.results15, go_sem]) rfl ⟨rfl, only_new w [_, _] _⟩

/-- Two gaps' ends. -/
theorem at_no (v : Nat) (Hv : Hid (v < 2 ^ 64)) (h1 : finB v = false) (w : World) : Calls Try.prog 14 #[.float .f64 v] w fun e w' => e = .returned (.agg #[.float .f64 18442240474082181120, .float .f64 9218868437227405312]) ∧ Only [] w w' := by
  have hB := Blk.new w 38 [.float .f64 0, .float .f64 0]
  have ho := (Only.refl [] w).alloc (.cells #[.float .f64 0, .float .f64 0] 38)
  go_enter Try.func14, Try.ntmps14
  go_wp2_with (first | (go_at_call 39; (with_reducible refine (finite_any _ Hv.out _).mono ?_); rintro e w' ⟨rfl, rfl⟩) | (go_at_call 15; (with_reducible refine (all_any _).mono ?_); rintro e w1 ⟨rfl, ho1⟩; have hB1 := hB.only ho1 (by simp); have c0 := hB1.cell 0; have c1 := hB1.cell 1; have f0 := hB1.frozen 0; have f1 := hB1.frozen 1; simp only [List.getElem?_cons_zero, List.getElem?_cons_succ] at c0 c1))
  refine bodyPost_ret (v := .agg #[.float .f64 18442240474082181120, .float .f64 9218868437227405312]) (by simp [results, Try.results14, go_sem, c0, c1]) rfl ⟨rfl, ?_⟩
  exact ((ho.nil_trans ho1).setCell (.inr (Nat.le_refl _)) _).setCell (.inr (Nat.le_refl _)) _

theorem at_yes (v : Nat) (Hv : Hid (v < 2 ^ 64)) (h1 : finB v = true) (w : World) : Calls Try.prog 14 #[.float .f64 v] w fun e w' => e = .returned (.agg #[.float .f64 v, .float .f64 v]) ∧ Only [] w w' := by
  go_enter Try.func14, Try.ntmps14
  go_wp2_with (first | (go_at_call 39; (with_reducible refine (finite_any _ Hv.out _).mono ?_); rintro e w' ⟨rfl, rfl⟩))
  refine bodyPost_ret (v := .agg #[.float .f64 v, .float .f64 v]) (by simp [results, Try.results14, go_sem]) rfl ⟨rfl, only_new w [_, _] _⟩

set_option maxHeartbeats 400000 in
theorem sign_any (lo hi : Nat) (hlo : lo < 2 ^ 64) (hhi : hi < 2 ^ 64) (w : World) (hk : (finB lo && finB hi && leB lo hi) = true) :
    Calls Try.prog 19 #[.agg #[.float .f64 lo, .float .f64 hi]] w fun e w' => e = .returned (.tuple #[.int .i64 (if ord lo 0 = some .gt then 1 else if ord hi 0 = some .lt then -1 else 0), .bool (if ord lo 0 = some .gt then true else if ord hi 0 = some .lt then true else ord lo 0 == some .eq && ord hi 0 == some .eq)]) ∧ Only [] w w' := by
  have Hk := Lib.hid hk
  have Hlo := Lib.hid hlo
  have Hhi := Lib.hid hhi
  have ho := (Only.refl [] w).alloc (.cells #[.float .f64 lo, .float .f64 hi] 38)
  have hB := Blk.new w 38 [.float .f64 lo, .float .f64 hi]
  generalize hg : ord lo 0 = a
  generalize hg2 : ord hi 0 = b
  have hg' : FloatKind.f64.format.order lo 0 = a := hg
  have hg2' : FloatKind.f64.format.order hi 0 = b := hg2
  clear hg hg2 hk hlo hhi ho
  have Ho := Lib.hid ((Only.refl [] w).alloc (.cells #[.float .f64 lo, .float .f64 hi] 38))
  by_cases g1 : a = some .gt
  · subst g1
    go_enter Try.func19, Try.ntmps19
    go_wp2_with (go_at_call 16; (with_reducible refine (known_any _ _ Hlo.out Hhi.out _).mono ?_); rw [Hk.out]; rintro e w' ⟨rfl, ho1⟩; have hB1 := hB.only ho1 (by simp); have c0 := hB1.cell 0; have c1 := hB1.cell 1; simp only [List.getElem?_cons_zero, List.getElem?_cons_succ] at c0 c1)
    go_ret2
    exact ⟨by simp, Ho.out.nil_trans ho1⟩
  · have g1' : (a == some .gt) = false := by simpa using g1
    by_cases g2 : b = some .lt
    · subst g2
      go_enter Try.func19, Try.ntmps19
      go_wp2_with (go_at_call 16; (with_reducible refine (known_any _ _ Hlo.out Hhi.out _).mono ?_); rw [Hk.out]; rintro e w' ⟨rfl, ho1⟩; have hB1 := hB.only ho1 (by simp); have c0 := hB1.cell 0; have c1 := hB1.cell 1; simp only [List.getElem?_cons_zero, List.getElem?_cons_succ] at c0 c1)
      go_ret2
      exact ⟨by simp [g1], Ho.out.nil_trans ho1⟩
    · have g2' : (b == some .lt) = false := by simpa using g2
      cases g3 : a == some .eq
      all_goals
        go_enter Try.func19, Try.ntmps19
        go_wp2_with (go_at_call 16; (with_reducible refine (known_any _ _ Hlo.out Hhi.out _).mono ?_); rw [Hk.out]; rintro e w' ⟨rfl, ho1⟩; have hB1 := hB.only ho1 (by simp); have c0 := hB1.cell 0; have c1 := hB1.cell 1; simp only [List.getElem?_cons_zero, List.getElem?_cons_succ] at c0 c1)
        go_quiet (fail)
        go_wp2_with fail
        go_ret2
        exact ⟨by simp [g1, g2, g3], (Ho.out.nil_trans ho1).drewN _⟩
end Go.Proofs.Ytkiongpfpjfaaaa
