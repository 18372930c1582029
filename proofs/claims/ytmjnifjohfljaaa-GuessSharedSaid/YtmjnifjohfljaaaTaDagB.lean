/-
  has, keyOf, Same, the errors: what each computes.
-/
import Derived.Test.YtmjnifjohfljaaaTaDagA
namespace Go.Proofs.Ytmjnifjohfljaaa
open Go.RowKit

set_option maxHeartbeats 400000 in
theorem has_any (b : Nat) (A : Option Addr) (n c : Nat) (id : Int) (w : World) (h0 : w.cell? ⟨b, 0, none⟩ = some (.slice A n c)) :
    Calls Try.prog 27 #[.pointer (some ⟨b, 0, none⟩), .int .i64 id] w fun e w' => e = .returned (.bool (hasB n id)) ∧ w = w' := by
  go_enter Try.func27, Try.ntmps27
  go_wp2
  all_goals (go_ret; refine ⟨?_, rfl⟩; simp [hasB]; try omega)

set_option maxHeartbeats 400000 in
theorem keyOf_any (k a b : Int) (f : Nat) (w : World) :
    Calls Try.prog 38 #[.agg #[.int .i64 k, .float .f64 f, .int .i64 a, .int .i64 b]] w fun e w' =>
      e = .returned (.agg #[.int .i64 k, .int .i64 a, .int .i64 b, .int .u64 (f : Int)]) ∧ Only [] w w' := by
  have hb := bits_run
  go_enter Try.func38, Try.ntmps38
  go_wp2
  go_region
  go_wp2
  go_returns
  exact ⟨rfl, (((Only.refl [] w).alloc _).alloc _).drew⟩

set_option maxHeartbeats 400000 in
theorem malformed_any (w : World) :
    Calls Try.prog 36 #[] w fun e w' => e = .returned (.iface 83 (.int .i64 1)) ∧ w = w' := by
  go_enter Try.func36, Try.ntmps36
  go_wp2
  go_ret
  exact ⟨rfl, rfl⟩

/-- An error At: a new block with the place and what it wraps. -/
def IsAt (w w' : World) (i : Int) (err v : Value) : Prop :=
  ∃ g, w.heap.size ≤ g ∧ v = .iface 84 (.pointer (some ⟨g, 0, none⟩)) ∧ Blk w' g 86 [.int .i64 i, err]

set_option maxHeartbeats 400000 in
theorem node_any (i : Int) (t : TypeId) (x : Int) (w : World) :
    Calls Try.prog 35 #[.int .i64 i, .iface t (.int .i64 x)] w fun e w' => ∃ v, e = .returned v ∧ IsAt w w' i (.iface t (.int .i64 x)) v ∧ Only [] w w' := by
  go_enter Try.func35, Try.ntmps35
  go_wp2
  go_ret
  refine ⟨_, rfl, ⟨w.heap.size, Nat.le_refl _, rfl, ?_⟩, ?_⟩
  · exact Blk.new w 86 [.int .i64 i, .iface t (.int .i64 x)]
  · exact (Only.refl [] w).alloc _

end Go.Proofs.Ytmjnifjohfljaaa
