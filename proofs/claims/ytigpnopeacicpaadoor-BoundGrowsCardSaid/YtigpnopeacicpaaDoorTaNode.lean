/-
  dag.Node, walk.parts.
-/
import Derived.Test.YtigpnopeacicpaaDoorTaGLd
namespace Go.Proofs.YtigpnopeacicpaaDoor
open Go.RowKit
attribute [local go_sem] run_store_float

set_option maxHeartbeats 800000 in
theorem dnode_in (d : Nat) (v : Value) (r : Option Nat) (ns : List Nd) (k : Nat) (w : World) (hd : DagIs w d v r ns) (hk : k < ns.length) :
    Calls Tryd.prog 72 #[.pointer (some ⟨d, 0, none⟩), .int .i64 (k : Int)] w fun e w' => e = .returned (.tuple #[(ns[k]?.getD nd0).val, .bool true]) ∧ Only [] w w' := by
  obtain ⟨A, c, hv, _, _, hc⟩ := NodesAt.shape (w := w) (u := v) (ns := ns) hd.row
  obtain ⟨g, rfl, x0, x1, x2, x3⟩ := hc k hk
  have h0 : w.cell? ⟨d, 0, none⟩ = some (.slice (some ⟨g, 0, none⟩) ns.length c) := by rw [← hv]; exact hd.blk.cell 0
  have hh : hasB ns.length (k : Int) = true := by simp [hasB]; omega
  generalize ns[k]?.getD nd0 = n at x0 x1 x2 x3 ⊢
  obtain ⟨nk, nf, na, nb⟩ := n
  simp only at x0 x1 x2 x3
  have hk' : (k : Int) < (ns.length : Int) := by omega
  have ho := (Only.refl [] w).alloc (.cells #[.int .i64 0, .float .f64 0, .int .i64 0, .int .i64 0] 31)
  have h0' := ho.cell h0 (by simp)
  have y0 := ho.cell x0 (by simp)
  have y1 := ho.cell x1 (by simp)
  have y2 := ho.cell x2 (by simp)
  have y3 := ho.cell x3 (by simp)
  clear hd hc hv ho x0 x1 x2 x3
  go_enter Tryd.func72, Tryd.ntmps72
  go_wp2_with (go_at_call 103; (with_reducible refine (has_any d _ ns.length c _ _ h0').mono ?_); rintro e w' ⟨rfl, rfl⟩)
  all_goals go_returns
  all_goals exact ⟨rfl, (Only.refl _ _).alloc _⟩

set_option maxHeartbeats 800000 in
theorem dnode_out (d : Nat) (v : Value) (r : Option Nat) (ns : List Nd) (k : Int) (w : World) (hd : DagIs w d v r ns) (hk : hasB ns.length k = false) :
    Calls Tryd.prog 72 #[.pointer (some ⟨d, 0, none⟩), .int .i64 k] w fun e w' => e = .returned (.tuple #[nd0.val, .bool false]) ∧ Only [] w w' := by
  obtain ⟨A, c, rfl⟩ := hd.shape
  have h0 : w.cell? ⟨d, 0, none⟩ = some (.slice A ns.length c) := hd.blk.cell 0
  have h0' := ((Only.refl [] w).alloc (.cells #[.int .i64 0, .float .f64 0, .int .i64 0, .int .i64 0] 31)).cell h0 (by simp)
  clear hd
  go_enter Tryd.func72, Tryd.ntmps72
  go_wp2_with (go_at_call 103; (with_reducible refine (has_any d _ ns.length c _ _ h0').mono ?_); rintro e w' ⟨rfl, rfl⟩)
  go_returns
  exact ⟨rfl, (Only.refl _ _).alloc _⟩

theorem arr_cells (w : World) (x0 x1 x2 x3 y0 y1 : Value) : (((w.alloc (.cells #[x0, x1, x2, x3] 31)).alloc (.cells #[y0, y1] 122)).cell? ⟨w.heap.size + 1, 0, none⟩ = some y0) ∧ (((w.alloc (.cells #[x0, x1, x2, x3] 31)).alloc (.cells #[y0, y1] 122)).cell? ⟨w.heap.size + 1, 1, none⟩ = some y1) := by
  have h := Blk.new (w.alloc (.cells #[x0, x1, x2, x3] 31)) 122 [y0, y1]
  rw [World.size_alloc] at h
  exact ⟨h.cell 0, h.cell 1⟩

set_option maxHeartbeats 800000 in
theorem parts_leaf (f : Nat) (a b : Int) (w : World) :
    Calls Tryd.prog 75 #[.agg #[.int .i64 0, .float .f64 f, .int .i64 a, .int .i64 b]] w fun e w' => e = .returned (.tuple #[.agg #[.int .i64 0, .int .i64 0], .int .i64 0]) ∧ Only [] w w' := by
  go_enter Tryd.func75, Tryd.ntmps75
  go_wp2_with fail
  obtain ⟨c0, c1⟩ := arr_cells w (.int .i64 0) (.float .f64 f) (.int .i64 a) (.int .i64 b) (.int .i64 0) (.int .i64 0)
  refine bodyPost_ret (v := .tuple #[.agg #[.int .i64 0, .int .i64 0], .int .i64 0]) (by simp [results, Tryd.results75, go_sem, c0, c1]) rfl ⟨rfl, ?_⟩
  exact ((Only.refl _ _).alloc _).alloc _

set_option maxHeartbeats 800000 in
theorem parts_root (f : Nat) (a b : Int) (w : World) :
    Calls Tryd.prog 75 #[.agg #[.int .i64 5, .float .f64 f, .int .i64 a, .int .i64 b]] w fun e w' => e = .returned (.tuple #[.agg #[.int .i64 a, .int .i64 0], .int .i64 1]) ∧ Only [] w w' := by
  go_enter Tryd.func75, Tryd.ntmps75
  go_wp2_with fail
  obtain ⟨c0, c1⟩ := arr_cells w (.int .i64 5) (.float .f64 f) (.int .i64 a) (.int .i64 b) (.int .i64 a) (.int .i64 0)
  refine bodyPost_ret (v := .tuple #[.agg #[.int .i64 a, .int .i64 0], .int .i64 1]) (by simp [results, Tryd.results75, go_sem, c0, c1]) rfl ⟨rfl, ?_⟩
  exact ((Only.refl _ _).alloc _).alloc _

set_option maxHeartbeats 800000 in
theorem parts_two (k : Int) (f : Nat) (a b : Int) (w : World) (h0 : (k == 0) = false) (h5 : (k == 5) = false) :
    Calls Tryd.prog 75 #[.agg #[.int .i64 k, .float .f64 f, .int .i64 a, .int .i64 b]] w fun e w' => e = .returned (.tuple #[.agg #[.int .i64 a, .int .i64 b], .int .i64 2]) ∧ Only [] w w' := by
  go_enter Tryd.func75, Tryd.ntmps75
  go_wp2_with fail
  obtain ⟨c0, c1⟩ := arr_cells w (.int .i64 k) (.float .f64 f) (.int .i64 a) (.int .i64 b) (.int .i64 a) (.int .i64 b)
  refine bodyPost_ret (v := .tuple #[.agg #[.int .i64 a, .int .i64 b], .int .i64 2]) (by simp [results, Tryd.results75, go_sem, c0, c1]) rfl ⟨rfl, ?_⟩
  exact ((Only.refl _ _).alloc _).alloc _
end Go.Proofs.YtigpnopeacicpaaDoor
