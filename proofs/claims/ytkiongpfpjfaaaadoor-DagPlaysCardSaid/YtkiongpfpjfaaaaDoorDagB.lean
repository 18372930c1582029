/-
  has, keyOf, Same, the errors: what each computes.
-/
import Derived.Test.YtkiongpfpjfaaaaDoorDagA
namespace Go.Proofs.YtkiongpfpjfaaaaDoor
open Go.RowKit

set_option maxHeartbeats 400000 in
theorem has_any (b : Nat) (A : Option Addr) (n c : Nat) (id : Int) (w : World) (h0 : w.cell? ⟨b, 0, none⟩ = some (.slice A n c)) :
    Calls Tryd.prog 39 #[.pointer (some ⟨b, 0, none⟩), .int .i64 id] w fun e w' => e = .returned (.bool (hasB n id)) ∧ w = w' := by
  go_enter Tryd.func39, Tryd.ntmps39
  go_wp2
  all_goals (go_ret; refine ⟨?_, rfl⟩; simp [hasB]; try omega)

set_option maxHeartbeats 400000 in
theorem has_nil (id : Int) (w : World) :
    Calls Tryd.prog 39 #[.pointer none, .int .i64 id] w fun e w' => e = .returned (.bool false) ∧ w = w' := by
  go_enter Tryd.func39, Tryd.ntmps39
  go_wp2
  all_goals (go_ret; refine ⟨?_, rfl⟩; simp)

set_option maxHeartbeats 400000 in
theorem keyOf_any (k a b : Int) (f : Nat) (w : World) :
    Calls Tryd.prog 28 #[.agg #[.int .i64 k, .float .f64 f, .int .i64 a, .int .i64 b]] w fun e w' =>
      e = .returned (.agg #[.int .i64 k, .int .i64 a, .int .i64 b, .int .u64 (f : Int)]) ∧ Only [] w w' := by
  have hb := bits_run
  go_enter Tryd.func28, Tryd.ntmps28
  go_wp2
  go_region
  go_wp2
  go_returns
  exact ⟨rfl, (((Only.refl [] w).alloc _).alloc _).drew⟩

def sameB (k : Int) (f : Nat) (a b k' : Int) (f' : Nat) (a' b' : Int) : Bool := decide (k = k' ∧ f = f' ∧ a = a' ∧ b = b')

set_option maxHeartbeats 400000 in
theorem same_any (k a b : Int) (f : Nat) (k' a' b' : Int) (f' : Nat) (w : World) :
    Calls Tryd.prog 16 #[.agg #[.int .i64 k, .float .f64 f, .int .i64 a, .int .i64 b], .agg #[.int .i64 k', .float .f64 f', .int .i64 a', .int .i64 b']] w fun e w' =>
      e = .returned (.bool (sameB k f a b k' f' a' b')) ∧ Only [] w w' := by
  have hb := bits_run
  go_enter Tryd.func16, Tryd.ntmps16
  go_wp2
  refine wp_region_quiet_lit (by kernel_rfl) (by kernel_rfl) ?_
  repeat (any_goals (first | go_big_quiet_step (fail) | quiet_step (fail) | (refine wpQuiet_step (fun K hK => ?_); go_simp; split <;> (refine hK _ ?_; clear hK K))))
  all_goals (refine wpQuiet_nil ?_; intro _ hw'; obtain ⟨nq, hw''⟩ := hw'; subst hw'')
  all_goals go_wp2
  all_goals go_ret
  all_goals (refine ⟨?_, (((Only.refl [] w).alloc _).alloc _).drewN _⟩)
  all_goals clear hb
  all_goals (simp_all [sameB]; try (first | omega | (rw [Bool.eq_iff_iff]; simp; try omega)))

set_option maxHeartbeats 400000 in
theorem malformed_any (w : World) :
    Calls Tryd.prog 25 #[] w fun e w' => e = .returned (.iface 84 (.int .i64 1)) ∧ w = w' := by
  go_enter Tryd.func25, Tryd.ntmps25
  go_wp2
  go_ret
  exact ⟨rfl, rfl⟩

set_option maxHeartbeats 400000 in
theorem limit_any (w : World) :
    Calls Tryd.prog 29 #[] w fun e w' => e = .returned (.iface 84 (.int .i64 7)) ∧ w = w' := by
  go_enter Tryd.func29, Tryd.ntmps29
  go_wp2
  go_ret
  exact ⟨rfl, rfl⟩

/-- An error At: a new block with the place and what it wraps. -/
def IsAt (w w' : World) (i : Int) (err v : Value) : Prop :=
  ∃ g, w.heap.size ≤ g ∧ v = .iface 77 (.pointer (some ⟨g, 0, none⟩)) ∧ Blk w' g 83 [.int .i64 i, err]

set_option maxHeartbeats 400000 in
theorem node_any (i : Int) (t : TypeId) (x : Int) (w : World) :
    Calls Tryd.prog 27 #[.int .i64 i, .iface t (.int .i64 x)] w fun e w' => ∃ v, e = .returned v ∧ IsAt w w' i (.iface t (.int .i64 x)) v ∧ Only [] w w' := by
  go_enter Tryd.func27, Tryd.ntmps27
  go_wp2
  go_ret
  refine ⟨_, rfl, ⟨w.heap.size, Nat.le_refl _, rfl, ?_⟩, ?_⟩
  · exact Blk.new w 83 [.int .i64 i, .iface t (.int .i64 x)]
  · exact (Only.refl [] w).alloc _
end Go.Proofs.YtkiongpfpjfaaaaDoor
