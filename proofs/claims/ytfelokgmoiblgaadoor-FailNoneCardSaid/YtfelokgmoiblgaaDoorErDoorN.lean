/-
  What the laid tables and errors.errorType give a walk, and a world in which they are laid.
-/
import Derived.Test.YtfelokgmoiblgaaDoorRows
import Derived.Test.YtfelokgmoiblgaaDoorDoorN
import Derived.JoinedOf
import Derived.LaidLaws
import Derived.LaidHandle
import Derived.Stop.Joined
import Derived.Stop.LaidErr
import Derived.Lib.LaidTab
import Derived.ChangeVars
import Derived.ProofKit
import Derived.OpenShut
import Derived.ShutString
import Derived.ChangeOld
import Derived.Below
import Derived.Deep.Slices
import Derived.Deep.Fields
import Derived.ChangeSame
namespace Go.Proofs.YtfelokgmoiblgaaDoor
open Go.ChangeShapes Go.WideShapes Go.RowKit

abbrev laidList4 (H : Type) : List (String × DataW H) := [("math/bits.deBruijn32tab", Rows.laid_math_bits_deBruijn32tab), ("math/bits.deBruijn64tab", Rows.laid_math_bits_deBruijn64tab), ("internal/strconv.uint64pow10", Rows.laid_internal_strconv_uint64pow10), ("errors.errorType", Rows.laid_errors_errorType)]
theorem et_named : Tryd.prog.globalNamed "errors.errorType" = some 0 := by kernel_rfl
theorem rt_named : (Tryd.prog.cutTypes.find? (·.1 == "internal/reflectlite.rtype")).map (·.2) = some 93 := by kernel_rfl
theorem oneRow : ((List.range Tryd.prog.types.size).filter fun t => Tryd.prog.rowNamed t [101, 114, 114, 111, 114]) = [25] := by kernel_rfl

theorem tabs_of_laid4 {W : World} (h : laidMetH Tryd.prog (laidList4 Unit) W) : Tab W ∧ Tab6 W := by
  have h0 : laidMet Tryd.prog [("math/bits.deBruijn32tab", Rows.laid_math_bits_deBruijn32tab), ("math/bits.deBruijn64tab", Rows.laid_math_bits_deBruijn64tab), ("internal/strconv.uint64pow10", Rows.laid_internal_strconv_uint64pow10)] W := h.1
  have h1 := laidMet.tail h0
  have h2 := laidMet.tail h1
  refine ⟨?_, ?_⟩
  · exact Lib.tabIs_of_head (g := 1) (t := 118) (e := 54) (n := 20) (by kernel_rfl) (by kernel_rfl) Tryd.underlying118 Tryd.underlying54 (by kernel_rfl) (by kernel_rfl) h2
  · exact Lib.tabIs_of_head (g := 3) (t := 125) (e := 5) (n := 64) (by kernel_rfl) (by kernel_rfl) Tryd.underlying125 Tryd.underlying5 (by kernel_rfl) (by kernel_rfl) h1

theorem handle_of_laid {W : World} (h : laidMetH Tryd.prog (laidList4 Unit) W) : W.cell? ⟨0, 0, none⟩ = some (.iface 93 (.agg #[.pointer (some ⟨4, 25, none⟩)])) := by
  have h' : laidMet Tryd.prog [("math/bits.deBruijn32tab", Rows.laid_math_bits_deBruijn32tab), ("math/bits.deBruijn64tab", Rows.laid_math_bits_deBruijn64tab), ("internal/strconv.uint64pow10", Rows.laid_internal_strconv_uint64pow10)] W ∧ handlesMet Tryd.prog [("errors.errorType", Rows.laid_errors_errorType)] W := h
  obtain ⟨name, u, ty, e1, e2, e3, e4, e5⟩ := h'.2 _ (List.mem_singleton.2 rfl)
  have en : name = [101, 114, 114, 111, 114] := (Option.some.inj e1).symm
  subst en
  obtain rfl := Option.some.inj (rt_named.symm.trans e2)
  have hm : ty ∈ (List.range Tryd.prog.types.size).filter fun t => Tryd.prog.rowNamed t [101, 114, 114, 111, 114] := List.mem_filter.2 ⟨List.mem_range.2 e3, e4⟩
  rw [oneRow] at hm
  obtain rfl := List.mem_singleton.1 hm
  have hh : typeHandle Tryd.prog 25 = .pointer (some ⟨4, 25, none⟩) := by kernel_rfl
  rw [hh] at e5
  simpa using World.var?_cell et_named e5 0

/-- A world that meets the condition: the settled one, the tables' cells laid. -/
noncomputable def laidWorld4 (os : Os) : World :=
  let w0 := World.holding Tryd.prog os ⟨#[], #[], []⟩
  let lay (cs : Array Value) : Obj → Obj := fun
    | .cells _ t frozen => .cells cs t frozen
    | o => o
  { w0 with heap := (((w0.heap.modify 1 (lay (Lib.pow10Tab.map fun z => Value.int .u64 z).toArray)).modify 3 (lay (tab64.map fun z => Value.int .u8 z).toArray)).modify 2 (lay (tab32.map fun z => Value.int .u8 z).toArray)).modify 0 (lay #[.iface 93 (.agg #[.pointer (some ⟨4, 25, none⟩)])]) }
theorem laidWorld4_met (os : Os) (args : Array Value) : laidMetH Tryd.prog (laidList4 Unit) ((laidWorld4 os).forCall (fun _ _ => 0) ⟨#[], args, []⟩).memory :=
  laidMetH_of_parts (laidMet_of_run' 8 (by kernel_rfl) (by kernel_rfl)) (by kernel_rfl)
end Go.Proofs.YtfelokgmoiblgaaDoor
