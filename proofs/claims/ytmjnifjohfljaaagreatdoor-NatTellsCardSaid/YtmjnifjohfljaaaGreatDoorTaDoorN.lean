/-
  What the laid tables (the powers of ten, de Bruijn's) give a walk, and a world in which they are laid.
-/
import Derived.Test.YtmjnifjohfljaaaGreatDoorRows
import Derived.Test.YtmjnifjohfljaaaGreatDoorTaGTxt
import Derived.JoinedOf
import Derived.LaidLaws
import Derived.LaidHandle
import Derived.Stop.Joined
import Derived.Stop.LaidErr
import Derived.Lib.LaidTab
import Derived.ChangeVars
import Derived.ProofKit
import Derived.OpenShut
import Derived.ShutString
import Derived.ChangeOld
import Derived.Below
import Derived.Deep.Slices
import Derived.Deep.Fields
import Derived.ChangeSame
namespace Go.Proofs.YtmjnifjohfljaaaGreatDoor
open Go.ChangeShapes Go.WideShapes Go.RowKit

abbrev laidList (H : Type) : List (String × DataW H) := [("math/bits.deBruijn32tab", Rows.laid_math_bits_deBruijn32tab), ("math/bits.deBruijn64tab", Rows.laid_math_bits_deBruijn64tab), ("internal/strconv.uint64pow10", Rows.laid_internal_strconv_uint64pow10)]
def tab64 : List Int := [0, 1, 56, 2, 57, 49, 28, 3, 61, 58, 42, 50, 38, 29, 17, 4, 62, 47, 59, 36, 45, 43, 51, 22, 53, 39, 33, 30, 24, 18, 12, 5, 63, 55, 48, 27, 60, 41, 37, 16, 46, 35, 44, 21, 52, 32, 23, 11, 54, 26, 40, 15, 34, 20, 31, 10, 25, 14, 19, 9, 13, 8, 7, 6]
def tab32 : List Int := [0, 1, 28, 2, 29, 14, 24, 3, 30, 22, 20, 15, 25, 17, 4, 8, 31, 27, 13, 23, 21, 19, 16, 7, 26, 12, 18, 6, 11, 5, 10, 9]
/-- De Bruijn's table stands. -/
def Tab6 (w : World) : Prop := Lib.TabIs Tryz.prog w "math/bits.deBruijn64tab" .u8 tab64
theorem tabs_of_laid {W : World} (h : laidMetH Tryz.prog (laidList Unit) W) : Tab W ∧ Tab6 W := by
  have h0 : laidMet Tryz.prog (laidList Unit) W := h
  have h1 := laidMet.tail h0
  have h2 := laidMet.tail h1
  refine ⟨?_, ?_⟩
  · exact Lib.tabIs_of_head (g := 4) (t := 256) (e := 102) (n := 20) (by kernel_rfl) (by kernel_rfl) Tryz.underlying256 Tryz.underlying102 (by kernel_rfl) (by kernel_rfl) h2
  · exact Lib.tabIs_of_head (g := 3) (t := 246) (e := 5) (n := 64) (by kernel_rfl) (by kernel_rfl) Tryz.underlying246 Tryz.underlying5 (by kernel_rfl) (by kernel_rfl) h1

/-- A world that meets the condition: the settled one, the tables' cells laid. -/
noncomputable def laidWorld (os : Os) : World :=
  let w0 := World.holding Tryz.prog os ⟨#[], #[], []⟩
  let lay (cs : Array Value) : Obj → Obj := fun
    | .cells _ t frozen => .cells cs t frozen
    | o => o
  { w0 with heap := ((w0.heap.modify 4 (lay (Lib.pow10Tab.map fun z => Value.int .u64 z).toArray)).modify 3 (lay (tab64.map fun z => Value.int .u8 z).toArray)).modify 6 (lay (tab32.map fun z => Value.int .u8 z).toArray) }
theorem laidWorld_met (os : Os) (args : Array Value) : laidMetH Tryz.prog (laidList Unit) ((laidWorld os).forCall (fun _ _ => 0) ⟨#[], args, []⟩).memory :=
  laidMetH_of_parts (laidMet_of_run' 8 (by kernel_rfl) (by kernel_rfl)) (by kernel_rfl)
end Go.Proofs.YtmjnifjohfljaaaGreatDoor
