/-
  An argument that is a number as it is handed in (a sign, limbs, an exponent), opened.
-/
import Derived.Test.YtkibkmdgibemkaaGreatDoorTbLimbsIn
import Derived.Lib.SmallJoins
import Derived.ChangeArms
import Derived.ProofKit
import Derived.OpenShut
import Derived.ShutString
import Derived.ChangeOld
import Derived.Below
import Derived.Deep.Slices
import Derived.Deep.Fields
import Derived.ChangeSame
namespace Go.Proofs.YtkibkmdgibemkaaGreatDoor
open Go.ChangeShapes Go.WideShapes Go.ChangeAt Go.RowKit Go.Deep Go.Joins

theorem Tryz.cells54 : Tryz.prog.cellsOf 54 = 3 := by kernel_rfl
set_option maxRecDepth 100000 in
theorem num_in {H : Type} {enc : TypeId × Value → H} {w : World} {base : Nat} {spare : Nat → Bool} {held : Bool} {r : Reach} {b0 : Nat} {v : Value} {d : DataW H} {p : List MemPlace} (hv : Value.okWide Tryz.prog w r b0 54 v) (h : DataW.Trod enc Tryz.prog w base spare held 54 v d p) :
    ∃ n a L c e, v = .agg #[.bool n, .slice a (List.length L) c, .int .i64 e] ∧ LimbsIn w a L ∧ List.length L ≤ c ∧ c ≤ maxLen ∧ (-9223372036854775808 ≤ e ∧ e ≤ 9223372036854775807) := by
  obtain ⟨c0, c1, c2, y0, y1, y2, m, rfl, -, -, hy0, hy1, hy2⟩ := open_agg3 Tryz.underlying54 (by kernel_rfl) Tryz.cells54 hv h
  obtain ⟨n, e0, -⟩ := DataW.trod_bool Tryz.underlying4 hy0
  obtain ⟨a, c, L, e1, g1, g2, hin⟩ := limbs_in Tryz.underlying22 hy1
  obtain ⟨z, e2, -, hwf⟩ := DataW.trod_int Tryz.underlying3 hy2
  simp only [List.cons.injEq, and_true] at e0 e1 e2
  subst e0 e1 e2
  have k1 : IntKind.i64.min = -9223372036854775808 := by kernel_rfl
  have k2 : IntKind.i64.max = 9223372036854775807 := by kernel_rfl
  simp only [Lit.wf, k1, k2, Bool.and_eq_true, decide_eq_true_eq] at hwf
  exact ⟨n, a, L, c, z, rfl, hin, g1, g2, hwf⟩
end Go.Proofs.YtkibkmdgibemkaaGreatDoor
