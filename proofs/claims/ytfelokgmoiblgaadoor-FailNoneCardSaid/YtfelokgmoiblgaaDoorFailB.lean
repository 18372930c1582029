/-
  errors.Is at errors that dag and code make.
-/
import Derived.Test.YtfelokgmoiblgaaDoorFailA
namespace Go.Proofs.YtfelokgmoiblgaaDoor
open Go.RowKit Go.Extern.Stop Go.Stop Go.Extern

theorem kindNoIs (v : Value) (xT : TypeId) (w : World) : (Instr.typeAssert (.iface 60 v) xT 102 true).run Tryd.prog w = .ok (.tuple #[.nilIface, .bool false]) w := run_typeAssert_lacksB Tryd.underlying102 (by kernel_rfl) (by kernel_rfl) v xT w
theorem atNoIs (v : Value) (xT : TypeId) (w : World) : (Instr.typeAssert (.iface 23 v) xT 102 true).run Tryd.prog w = .ok (.tuple #[.nilIface, .bool false]) w := run_typeAssert_lacksB Tryd.underlying102 (by kernel_rfl) (by kernel_rfl) v xT w

theorem eq_kind (k j : Int) (w : World) : (binOp .eql 25 (.iface 60 (.int .i64 k)) (.iface 60 (.int .i64 j))).run Tryd.prog w = .ok (.bool (k == j)) w := by
  have hc : (Tryd.prog.info? 60).map (·.comparable) = some true := by kernel_rfl
  obtain ⟨i, hi, hcomp⟩ := Option.map_eq_some_iff.1 hc
  have h : ∀ d : Nat, (Op.equalIn (d + 2) 25 (.iface 60 (.int .i64 k)) (.iface 60 (.int .i64 j))).run Tryd.prog w = .ok (k == j) w := fun d => by
    simp [Op.equalIn, run_underlying Tryd.underlying25, run_underlying Tryd.underlying60, typeInfo, hi, hcomp]
  simp only [binOp]
  simp [Op.equal, Op.maxDepth, h 9998]
theorem eq_at_kind (u v : Value) (w : World) : (binOp .eql 25 (.iface 23 u) (.iface 60 v)).run Tryd.prog w = .ok (.bool false) w := run_eql_iface_types 23 60 u v Tryd.underlying25 (by decide) w

set_option maxHeartbeats 400000 in
set_option maxRecDepth 100000 in
theorem is_kind (k j : Int) (w : World) : Calls Tryd.prog 38 #[.iface 60 (.int .i64 k), .iface 60 (.int .i64 j), .bool true] w fun e w' => e = .returned (.bool (k == j)) ∧ w' = w := by
  have h1 := kindNoUw
  have h2 := kindNoUws
  have h3 := kindNoIs
  have h4 := eq_kind
  go_enter Tryd.func38, Tryd.ntmps38
  go_wp2
  refine wp_loop_rounds 1 ?_
  rw [rounds_succ]
  go_wp2
  all_goals go_ret
  all_goals rename_i h
  all_goals exact ⟨by simp [h], rfl⟩

set_option maxHeartbeats 400000 in
set_option maxRecDepth 100000 in
theorem is_at (k j : Int) (a : Nat) (i : Value) (w : World) (ha : Blk w a 27 [i, .iface 60 (.int .i64 k)]) :
    Calls Tryd.prog 38 #[.iface 23 (.pointer (some ⟨a, 0, none⟩)), .iface 60 (.int .i64 j), .bool true] w fun e w' => e = .returned (.bool (k == j)) ∧ w' = w := by
  have h1 := kindNoUw
  have h2 := kindNoUws
  have h3 := kindNoIs
  have h4 := eq_kind
  have h5 := atNoIs
  have h6 := atUw
  have h7 := atMethod
  have h8 := eq_at_kind
  go_enter Tryd.func38, Tryd.ntmps38
  go_wp2
  refine wp_loop_rounds 2 ?_
  rw [rounds_succ]
  go_wp2_with (go_at_call 8; (with_reducible refine (at_unwrap a i _ _ ha).mono ?_); rintro e w' ⟨rfl, rfl⟩)
  rw [rounds_succ]
  go_wp2
  all_goals go_ret
  all_goals rename_i h
  all_goals exact ⟨by simp [h], rfl⟩

theorem kindType (v : Value) (w : World) : (ReflectliteType.typeOf #[.iface 60 v]).run Tryd.prog w = .ok (.iface 93 (.agg #[.pointer (some ⟨4, 60, none⟩)])) w := by kernel_rfl

theorem kindComp (w : World) : (callFunc 96 #[.agg #[.pointer (some ⟨4, 60, none⟩)]]).run Tryd.prog w = .ok (.value (.bool true)) w := by kernel_rfl

set_option maxHeartbeats 400000 in
set_option maxRecDepth 100000 in
theorem Is_kind (k j : Int) (w : World) : Calls Tryd.prog 17 #[.iface 60 (.int .i64 k), .iface 60 (.int .i64 j)] w fun e w' => e = .returned (.bool (k == j)) ∧ w' = w := by
  have h1 := @run_callFunc_extern Tryd.prog 37 _ ReflectliteType.typeOf Tryd.func37 (by kernel_rfl) (by kernel_rfl) (by kernel_rfl) (by kernel_rfl)
  have h2 := kindType
  have h3 := kindComp
  go_enter Tryd.func17, Tryd.ntmps17
  go_wp2_with (go_at_call 38; (with_reducible refine (is_kind k j _).mono ?_); rintro e w' ⟨rfl, rfl⟩)
  go_ret
  exact ⟨rfl, rfl⟩

set_option maxHeartbeats 400000 in
set_option maxRecDepth 100000 in
theorem Is_at (k j : Int) (a : Nat) (i : Value) (w : World) (ha : Blk w a 27 [i, .iface 60 (.int .i64 k)]) :
    Calls Tryd.prog 17 #[.iface 23 (.pointer (some ⟨a, 0, none⟩)), .iface 60 (.int .i64 j)] w fun e w' => e = .returned (.bool (k == j)) ∧ w' = w := by
  have h1 := @run_callFunc_extern Tryd.prog 37 _ ReflectliteType.typeOf Tryd.func37 (by kernel_rfl) (by kernel_rfl) (by kernel_rfl) (by kernel_rfl)
  have h2 := kindType
  have h3 := kindComp
  go_enter Tryd.func17, Tryd.ntmps17
  go_wp2_with (go_at_call 38; (with_reducible refine (is_at k j a i _ ha).mono ?_); rintro e w' ⟨rfl, rfl⟩)
  go_ret
  exact ⟨rfl, rfl⟩
end Go.Proofs.YtfelokgmoiblgaaDoor
