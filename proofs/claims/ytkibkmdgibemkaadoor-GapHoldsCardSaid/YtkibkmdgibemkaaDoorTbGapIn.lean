/-
  An argument that is a gap (two float64), opened.
-/
import Derived.Test.YtkibkmdgibemkaaDoorTbLimbsIn
import Derived.Lib.SmallJoins
import Derived.ChangeArms
import Derived.WalkLawsBesides
import Derived.ProofKit
import Derived.OpenShut
import Derived.ShutString
import Derived.ChangeOld
import Derived.Below
import Derived.Deep.Slices
import Derived.Deep.Fields
import Derived.ChangeSame
namespace Go.Proofs.YtkibkmdgibemkaaDoor
open Go.ChangeShapes Go.WideShapes Go.ChangeAt Go.RowKit Go.Deep Go.Joins

section
variable {P : Program} {H : Type} {enc : TypeId × Value → H} {w : World} {base : Nat} {spare : Nat → Bool} {held : Bool}
theorem trod_float {k : FloatKind} {t : TypeId} {fuel : Nat} {cs : List Value} {x : DataW H × List MemPlace} (ht : P.underlying t = some (.float k)) (h : DataW.trod enc P w base spare held fuel t cs = some x) :
    ∃ b, cs = [.float k b] ∧ (Lit.float k b).wf = true := by
  cases fuel with
  | zero => simp [DataW.trod] at h
  | succ n =>
    unfold DataW.trod at h
    rw [ht] at h
    split at h <;> simp_all
end
theorem Tryd.cells24 : Tryd.prog.cellsOf 24 = 2 := by kernel_rfl
set_option maxRecDepth 100000 in
theorem gap_in {H : Type} {enc : TypeId × Value → H} {w : World} {base : Nat} {spare : Nat → Bool} {held : Bool} {r : Reach} {b0 : Nat} {v : Value} {d : DataW H} {p : List MemPlace} (hv : Value.okWide Tryd.prog w r b0 24 v) (h : DataW.Trod enc Tryd.prog w base spare held 24 v d p) :
    ∃ lo hi, v = .agg #[.float .f64 lo, .float .f64 hi] ∧ lo < 18446744073709551616 ∧ hi < 18446744073709551616 := by
  obtain ⟨c0, c1, y0, y1, m, rfl, -, -, hy0, hy1⟩ := open_agg2 Tryd.underlying24 (by kernel_rfl) Tryd.cells24 hv h
  obtain ⟨lo, e0, h0⟩ := trod_float Tryd.underlying22 hy0
  obtain ⟨hi, e1, h1⟩ := trod_float Tryd.underlying22 hy1
  simp only [List.cons.injEq, and_true] at e0 e1
  subst e0 e1
  exact ⟨lo, hi, rfl, by simpa [Lit.wf] using h0, by simpa [Lit.wf] using h1⟩
end Go.Proofs.YtkibkmdgibemkaaDoor
