/-
  What the one laid table (de Bruijn's) gives a walk, and a world in which it is laid.
-/
import Derived.Test.YtigpnopeacicpaaDoorTaTabs
import Derived.ProofKit
import Derived.OpenShut
import Derived.ShutString
import Derived.ChangeOld
import Derived.Below
import Derived.Deep.Slices
import Derived.Deep.Fields
import Derived.ChangeSame
namespace Go.Proofs.YtigpnopeacicpaaDoor
open Go.ChangeShapes Go.WideShapes Go.RowKit

abbrev laidList1 (H : Type) : List (String × DataW H) := [("math/bits.deBruijn64tab", Rows.laid_math_bits_deBruijn64tab)]
theorem tab_of_laid1 {W : World} (h : laidMetH Tryd.prog (laidList1 Unit) W) : Tab6 W := by
  have h0 : laidMet Tryd.prog (laidList1 Unit) W := h
  exact Lib.tabIs_of_head (g := 6) (t := 219) (e := 5) (n := 64) (by kernel_rfl) (by kernel_rfl) Tryd.underlying219 Tryd.underlying5 (by kernel_rfl) (by kernel_rfl) h0
/-- A world that meets the condition: the settled one, the table's cells laid. -/
noncomputable def laidWorld1 (os : Os) : World :=
  let w0 := World.holding Tryd.prog os ⟨#[], #[], []⟩
  let lay (cs : Array Value) : Obj → Obj := fun
    | .cells _ t frozen => .cells cs t frozen
    | o => o
  { w0 with heap := w0.heap.modify 6 (lay (tab64.map fun z => Value.int .u8 z).toArray) }
theorem laidWorld1_met (os : Os) (args : Array Value) : laidMetH Tryd.prog (laidList1 Unit) ((laidWorld1 os).forCall (fun _ _ => 0) ⟨#[], args, []⟩).memory :=
  laidMetH_of_parts (laidMet_of_run' 8 (by kernel_rfl) (by kernel_rfl)) (by kernel_rfl)
end Go.Proofs.YtigpnopeacicpaaDoor
