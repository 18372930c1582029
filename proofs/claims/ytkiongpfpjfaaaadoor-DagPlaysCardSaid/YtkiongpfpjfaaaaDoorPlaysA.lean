/-
  dag.Node; the methods of a nil Dag.
-/
import Derived.Test.YtkiongpfpjfaaaaDoorLoadC
namespace Go.Proofs.YtkiongpfpjfaaaaDoor
open Go.RowKit
attribute [local go_sem] run_store_float

set_option maxHeartbeats 800000 in
theorem dnode_in (d : Nat) (v : Value) (r : Option Nat) (ns : List Nd) (k : Nat) (w : World) (hd : DagIs w d v r ns) (hk : k < ns.length) :
    Calls Tryd.prog 13 #[.pointer (some ⟨d, 0, none⟩), .int .i64 (k : Int)] w fun e w' => e = .returned (.tuple #[(ns[k]?.getD nd0).val, .bool true]) ∧ Only [] w w' := by
  obtain ⟨A, c, hv, _, _, hc⟩ := NodesAt.shape (w := w) (u := v) (ns := ns) hd.row
  obtain ⟨g, rfl, x0, x1, x2, x3⟩ := hc k hk
  have h0 : w.cell? ⟨d, 0, none⟩ = some (.slice (some ⟨g, 0, none⟩) ns.length c) := by rw [← hv]; exact hd.blk.cell 0
  have hh : hasB ns.length (k : Int) = true := by simp [hasB]; omega
  generalize ns[k]?.getD nd0 = n at x0 x1 x2 x3 ⊢
  obtain ⟨nk, nf, na, nb⟩ := n
  simp only at x0 x1 x2 x3
  have hk' : (k : Int) < (ns.length : Int) := by omega
  have ho := (Only.refl [] w).alloc (.cells #[.int .i64 0, .float .f64 0, .int .i64 0, .int .i64 0] 43)
  have h0' := ho.cell h0 (by simp)
  have y0 := ho.cell x0 (by simp)
  have y1 := ho.cell x1 (by simp)
  have y2 := ho.cell x2 (by simp)
  have y3 := ho.cell x3 (by simp)
  clear hd hc hv ho x0 x1 x2 x3
  go_enter Tryd.func13, Tryd.ntmps13
  go_wp2_with (go_at_call 39; (with_reducible refine (has_any d _ ns.length c _ _ h0').mono ?_); rintro e w' ⟨rfl, rfl⟩)
  all_goals go_returns
  all_goals exact ⟨rfl, (Only.refl _ _).alloc _⟩

set_option maxHeartbeats 800000 in
theorem dnode_out (d : Nat) (v : Value) (r : Option Nat) (ns : List Nd) (k : Int) (w : World) (hd : DagIs w d v r ns) (hk : hasB ns.length k = false) :
    Calls Tryd.prog 13 #[.pointer (some ⟨d, 0, none⟩), .int .i64 k] w fun e w' => e = .returned (.tuple #[nd0.val, .bool false]) ∧ Only [] w w' := by
  obtain ⟨A, c, rfl⟩ := hd.shape
  have h0 : w.cell? ⟨d, 0, none⟩ = some (.slice A ns.length c) := hd.blk.cell 0
  have h0' := ((Only.refl [] w).alloc (.cells #[.int .i64 0, .float .f64 0, .int .i64 0, .int .i64 0] 43)).cell h0 (by simp)
  clear hd
  go_enter Tryd.func13, Tryd.ntmps13
  go_wp2_with (go_at_call 39; (with_reducible refine (has_any d _ ns.length c _ _ h0').mono ?_); rintro e w' ⟨rfl, rfl⟩)
  go_returns
  exact ⟨rfl, (Only.refl _ _).alloc _⟩

theorem dnode_nil (k : Int) (w : World) :
    Calls Tryd.prog 13 #[.pointer none, .int .i64 k] w fun e w' => e = .returned (.tuple #[nd0.val, .bool false]) ∧ Only [] w w' := by
  go_enter Tryd.func13, Tryd.ntmps13
  go_wp2_with (go_at_call 39; (with_reducible refine (has_nil _ _).mono ?_); rintro e w' ⟨rfl, rfl⟩)
  go_returns
  exact ⟨rfl, (Only.refl _ _).alloc _⟩

theorem dput_nil (k : Int) (f : Nat) (a b : Int) (w : World) :
    Calls Tryd.prog 7 #[.pointer none, .agg #[.int .i64 k, .float .f64 f, .int .i64 a, .int .i64 b]] w fun e w' => e = .returned (.tuple #[.int .i64 (-1), .iface 84 (.int .i64 1)]) ∧ Only [] w w' := by
  go_enter Tryd.func7, Tryd.ntmps7
  go_wp2_with (go_at_call 25; (with_reducible refine (malformed_any _).mono ?_); rintro e w' ⟨rfl, rfl⟩)
  go_returns
  exact ⟨rfl, (Only.refl _ _).alloc _⟩

theorem dall_nil (w : World) : Calls Tryd.prog 11 #[.pointer none] w fun e w' => e = .returned (.slice none 0 0) ∧ w' = w := by
  go_enter Tryd.func11, Tryd.ntmps11
  go_wp2
  go_returns
  exact ⟨rfl, rfl⟩

theorem put_nil (k : Int) (f : Nat) (a b : Int) (w : World) :
    Calls Tryd.prog 41 #[.pointer none, .agg #[.int .i64 k, .float .f64 f, .int .i64 a, .int .i64 b]] w fun e w' => e = .returned (.int .i64 (-1)) ∧ Only [] w w' := by
  go_enter Tryd.func41, Tryd.ntmps41
  go_wp2_with (go_at_call 7; (with_reducible refine (dput_nil _ _ _ _ _).mono ?_); rintro e w' ⟨rfl, ho⟩)
  go_ret
  exact ⟨rfl, ((Only.refl [] w).alloc _).nil_trans ho⟩

theorem dleaf_nil (f : Nat) (w : World) :
    Calls Tryd.prog 17 #[.pointer none, .float .f64 f] w fun e w' => e = .returned (.int .i64 (-1)) ∧ Only [] w w' := by
  go_enter Tryd.func17, Tryd.ntmps17
  go_wp2_with (go_at_call 41; (with_reducible refine (put_nil _ _ _ _ _).mono ?_); rintro e w' ⟨rfl, ho⟩)
  go_ret
  exact ⟨rfl, ho⟩

theorem dfold_nil (kind x : Int) (g c : Nat) (w : World) (hx : w.cell? ⟨g, 0, none⟩ = some (.int .i64 x)) :
    Calls Tryd.prog 42 #[.pointer none, .int .i64 kind, .slice (some ⟨g, 0, none⟩) 1 c] w fun e w' => e = .returned (.int .i64 (-1)) ∧ w' = w := by
  go_enter Tryd.func42, Tryd.ntmps42
  go_wp2_with (go_at_call 39; (with_reducible refine (has_nil _ _).mono ?_); rintro e w' ⟨rfl, rfl⟩)
  go_ret
  exact ⟨rfl, rfl⟩

theorem dadd_nil (x : Int) (g c : Nat) (w : World) (hx : w.cell? ⟨g, 0, none⟩ = some (.int .i64 x)) :
    Calls Tryd.prog 18 #[.pointer none, .slice (some ⟨g, 0, none⟩) 1 c] w fun e w' => e = .returned (.int .i64 (-1)) ∧ w' = w := by
  go_enter Tryd.func18, Tryd.ntmps18
  go_wp2_with (go_at_call 42; (with_reducible refine (dfold_nil _ _ _ _ _ hx).mono ?_); rintro e w' ⟨rfl, rfl⟩)
  go_ret
  exact ⟨rfl, rfl⟩
end Go.Proofs.YtkiongpfpjfaaaaDoor
