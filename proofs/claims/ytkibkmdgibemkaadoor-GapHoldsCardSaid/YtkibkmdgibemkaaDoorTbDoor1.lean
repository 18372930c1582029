/-
  What the one laid table (de Bruijn's) gives a walk, and a world in which it is laid.
-/
import Derived.Test.YtkibkmdgibemkaaDoorTbDoorN
import Derived.ProofKit
import Derived.OpenShut
import Derived.ShutString
import Derived.ChangeOld
import Derived.Below
import Derived.Deep.Slices
import Derived.Deep.Fields
import Derived.ChangeSame
namespace Go.Proofs.YtkibkmdgibemkaaDoor
open Go.ChangeShapes Go.WideShapes Go.RowKit

abbrev laidList1 (H : Type) : List (String × DataW H) := [("math/bits.deBruijn64tab", Rows.laid_math_bits_deBruijn64tab)]
theorem tab_of_laid1 {W : World} (h : laidMetH Tryd.prog (laidList1 Unit) W) : Tab6 W := by
  have h0 : laidMet Tryd.prog (laidList1 Unit) W := h
  exact Lib.tabIs_of_head (g := 3) (t := 151) (e := 5) (n := 64) (by kernel_rfl) (by kernel_rfl) Tryd.underlying151 Tryd.underlying5 (by kernel_rfl) (by kernel_rfl) h0
theorem laidWorld1_met (os : Os) (args : Array Value) : laidMetH Tryd.prog (laidList1 Unit) ((laidWorld os).forCall (fun _ _ => 0) ⟨#[], args, []⟩).memory :=
  laidMetH_of_parts (laidMet_of_run' 8 (by kernel_rfl) (by kernel_rfl)) (by kernel_rfl)
end Go.Proofs.YtkibkmdgibemkaaDoor
