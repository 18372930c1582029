/-
  fail: errors that dag and code make: a kind, or a kind at a node. endless, Code, Where at these.
-/
import Derived.Test.YtfelokgmoiblgaaDoorProg
import Derived.Test.YtfelokgmoiblgaaDoorMem
import Derived.Stop.Asserts
import Derived.LaidEql
namespace Go.Proofs.YtfelokgmoiblgaaDoor
open Go.RowKit Go.Extern.Stop Go.Stop Go.Extern

theorem kindNoUw (v : Value) (xT : TypeId) (w : World) : (Instr.typeAssert (.iface 60 v) xT 100 true).run Tryd.prog w = .ok (.tuple #[.nilIface, .bool false]) w := run_typeAssert_lacksB Tryd.underlying100 (by kernel_rfl) (by kernel_rfl) v xT w
theorem kindNoUws (v : Value) (xT : TypeId) (w : World) : (Instr.typeAssert (.iface 60 v) xT 101 true).run Tryd.prog w = .ok (.tuple #[.nilIface, .bool false]) w := run_typeAssert_lacksB Tryd.underlying101 (by kernel_rfl) (by kernel_rfl) v xT w
theorem atUw (v : Value) (xT : TypeId) (w : World) : (Instr.typeAssert (.iface 23 v) xT 100 true).run Tryd.prog w = .ok (.tuple #[.iface 23 v, .bool true]) w := run_typeAssert_hasB Tryd.underlying100 (by kernel_rfl) v xT w
theorem atMethod (h : Value) (w : World) : (Go.method 100 23 h "Unwrap").run Tryd.prog w = .ok (8, h) w := by kernel_rfl

set_option maxHeartbeats 400000 in
theorem at_unwrap (g : Nat) (i : Value) (x : Value) (w : World) (hc : Blk w g 27 [i, x]) :
    Calls Tryd.prog 8 #[.pointer (some ⟨g, 0, none⟩)] w fun e w' => e = .returned x ∧ w' = w := by
  have c0 := hc.cell 0
  have c1 := hc.cell 1
  simp only [List.getElem?_cons_zero, List.getElem?_cons_succ] at c0 c1
  go_enter Tryd.func8, Tryd.ntmps8
  go_wp2
  go_ret
  exact ⟨rfl, rfl⟩

set_option maxHeartbeats 400000 in
set_option maxRecDepth 100000 in
theorem loops_kind (k : Int) (g : Nat) (s : Int) (w : World) (hs : 0 ≤ s ∧ s < 1000) (hc : w.cell? ⟨g, 0, none⟩ = some (.int .i64 s)) (hf : w.frozen? ⟨g, 0, none⟩ = false) :
    Calls Tryd.prog 45 #[.iface 60 (.int .i64 k), .int .i64 0, .pointer (some ⟨g, 0, none⟩)] w fun e w' => e = .returned (.bool false) ∧ w' = w.setCell ⟨g, 0, none⟩ (.int .i64 (s + 1)) := by
  have h1 := kindNoUw
  have h2 := kindNoUws
  have hb : ¬ (16777216 : Int) < s + 1 := by omega
  go_enter Tryd.func45, Tryd.ntmps45
  go_wp2
  refine wp_loop_rounds 1 ?_
  rw [rounds_succ]
  go_wp2
  go_ret
  exact ⟨rfl, rfl⟩

set_option maxHeartbeats 400000 in
set_option maxRecDepth 100000 in
theorem loops_at (k : Int) (a : Nat) (i : Value) (g : Nat) (s : Int) (w : World) (hs : 0 ≤ s ∧ s < 1000) (hc : Blk w g 3 [.int .i64 s]) (ha : Blk w a 27 [i, .iface 60 (.int .i64 k)]) :
    Calls Tryd.prog 45 #[.iface 23 (.pointer (some ⟨a, 0, none⟩)), .int .i64 0, .pointer (some ⟨g, 0, none⟩)] w fun e w' => e = .returned (.bool false) ∧ Only [g] w w' := by
  have h1 := kindNoUw
  have h2 := kindNoUws
  have h3 := atUw
  have h4 := atMethod
  have hb : ¬ (16777216 : Int) < s + 1 := by omega
  have hb2 : ¬ (16777216 : Int) < s + 1 + 1 := by omega
  have c0 := hc.cell 0
  have f0 := hc.frozen 0
  simp only [List.getElem?_cons_zero] at c0
  have hga : g ≠ a := by
    intro e
    subst e
    have := hc.symm.trans ha
    simp at this
  go_enter Tryd.func45, Tryd.ntmps45
  go_wp2
  refine wp_loop_rounds 2 ?_
  rw [rounds_succ]
  go_wp2_with (go_at_call 8; (with_reducible refine (at_unwrap a i _ _ (ha.far (by first | exact hga.symm | exact fun h => hga h.symm) _)).mono ?_); rintro e w' ⟨rfl, rfl⟩)
  rw [rounds_succ]
  go_wp2
  go_ret
  exact ⟨rfl, ((Only.refl [g] w).setCell (.inl (by simp)) _).setCell (.inl (by simp)) _⟩

set_option maxHeartbeats 400000 in
theorem endless_kind (k : Int) (w : World) : Calls Tryd.prog 30 #[.iface 60 (.int .i64 k)] w fun e w' => e = .returned (.bool false) ∧ Only [] w w' := by
  have hB := Blk.new w 3 [.int .i64 0]
  have ho := (Only.refl [] w).alloc (.cells #[.int .i64 0] 3)
  go_enter Tryd.func30, Tryd.ntmps30
  go_wp2_with (go_at_call 45; (with_reducible refine (loops_kind k _ 0 _ (by omega) (hB.cell 0) (hB.frozen 0)).mono ?_); rintro e w' ⟨rfl, rfl⟩)
  go_ret
  exact ⟨rfl, (Only.refl [] w).alloc _⟩

set_option maxHeartbeats 400000 in
theorem endless_at (k : Int) (a : Nat) (i : Value) (w : World) (ha : Blk w a 27 [i, .iface 60 (.int .i64 k)]) : Calls Tryd.prog 30 #[.iface 23 (.pointer (some ⟨a, 0, none⟩))] w fun e w' => e = .returned (.bool false) ∧ Only [] w w' := by
  have hB := Blk.new w 3 [.int .i64 0]
  have ho := (Only.refl [] w).alloc (.cells #[.int .i64 0] 3)
  have ha' := ha.alloc (.cells #[.int .i64 0] 3)
  go_enter Tryd.func30, Tryd.ntmps30
  go_wp2_with (go_at_call 45; (with_reducible refine (loops_at k a i _ 0 _ (by omega) hB ha').mono ?_); rintro e w' ⟨rfl, ho1⟩)
  go_ret
  refine ⟨rfl, ho.trans ho1 (fun b hb => .inr ?_)⟩
  have : b = w.heap.size := by simpa using hb
  omega
end Go.Proofs.YtfelokgmoiblgaaDoor
