/-
  Arguments that are arrays by value, opened: three slices of limbs; three booleans.
-/
import Derived.Test.YtphjcphcgnjogaaDoorLimbsIn
import Derived.Laws.IdiomArrays
import Derived.ProofKit
import Derived.OpenShut
import Derived.ShutString
import Derived.ChangeOld
import Derived.Below
import Derived.Deep.Slices
import Derived.Deep.Fields
import Derived.ChangeSame
namespace Go.Proofs.YtphjcphcgnjogaaDoor
open Go.ChangeShapes Go.WideShapes Go.ChangeAt Go.RowKit Go.Deep

theorem array_three {α : Type} {cs : Array α} (h : cs.size = 3) : ∃ x y z, cs = #[x, y, z] := by
  obtain ⟨l⟩ := cs
  rcases l with _ | ⟨x, _ | ⟨y, _ | ⟨z, _ | ⟨u, t⟩⟩⟩⟩ <;> simp at h
  exact ⟨x, y, z, rfl⟩
/-- A slice of limbs among others, opened. -/
def LimIn (w : World) (A : Option Addr) (c : Nat) (L : List Nat) : Prop := LimbsIn w A L ∧ L.length ≤ c ∧ c ≤ maxLen
set_option maxRecDepth 100000 in
theorem lim3_in {H : Type} {enc : TypeId × Value → H} {w : World} {base : Nat} {spare : Nat → Bool} {held : Bool} {r : Reach} {b0 : Nat} {v : Value} {d : DataW H} {p : List MemPlace} (hv : Value.okWide Tryd.prog w r b0 38 v) (h : DataW.Trod enc Tryd.prog w base spare held 38 v d p) :
    ∃ xa xc xL ya yc yL za zc zL, v = .agg #[.slice xa (List.length xL) xc, .slice ya (List.length yL) yc, .slice za (List.length zL) zc] ∧ LimIn w xa xc xL ∧ LimIn w ya yc yL ∧ LimIn w za zc zL := by
  obtain ⟨cs, rfl, hsz, _⟩ : ∃ cs, v = .agg cs ∧ cs.size = Tryd.prog.cellsOf 38 ∧ Row.okWide Tryd.prog w r b0 38 cs := by simpa [Value.okWide, Tryd.underlying38] using hv
  rw [show Tryd.prog.cellsOf 38 = 3 by kernel_rfl] at hsz
  obtain ⟨c0, c1, c2, rfl⟩ := array_three hsz
  obtain ⟨fuel, hf⟩ := h
  obtain ⟨y0, y1, y2, m, hx, hy0, hy1, hy2⟩ := trod_array3 Tryd.underlying38 (by kernel_rfl) hf
  obtain ⟨A0, k0, L0, e0, g0, i0, f0⟩ := limbs_in Tryd.underlying24 hy0
  obtain ⟨A1, k1, L1, e1, g1, i1, f1⟩ := limbs_in Tryd.underlying24 hy1
  obtain ⟨A2, k2, L2, e2, g2, i2, f2⟩ := limbs_in Tryd.underlying24 hy2
  simp only [List.cons.injEq, and_true] at e0 e1 e2
  subst e0 e1 e2
  exact ⟨A0, k0, L0, A1, k1, L1, A2, k2, L2, rfl, ⟨f0, g0, i0⟩, ⟨f1, g1, i1⟩, ⟨f2, g2, i2⟩⟩
set_option maxRecDepth 100000 in
theorem bool3_in {H : Type} {enc : TypeId × Value → H} {w : World} {base : Nat} {spare : Nat → Bool} {held : Bool} {r : Reach} {b0 : Nat} {v : Value} {d : DataW H} {p : List MemPlace} (hv : Value.okWide Tryd.prog w r b0 39 v) (h : DataW.Trod enc Tryd.prog w base spare held 39 v d p) :
    ∃ bx by_ bz, v = .agg #[.bool bx, .bool by_, .bool bz] := by
  obtain ⟨cs, rfl, hsz, _⟩ : ∃ cs, v = .agg cs ∧ cs.size = Tryd.prog.cellsOf 39 ∧ Row.okWide Tryd.prog w r b0 39 cs := by simpa [Value.okWide, Tryd.underlying39] using hv
  rw [show Tryd.prog.cellsOf 39 = 3 by kernel_rfl] at hsz
  obtain ⟨c0, c1, c2, rfl⟩ := array_three hsz
  obtain ⟨fuel, hf⟩ := h
  obtain ⟨y0, y1, y2, m, hx, hy0, hy1, hy2⟩ := trod_array3 Tryd.underlying39 (by kernel_rfl) hf
  obtain ⟨x0, e0, -⟩ := DataW.trod_bool Tryd.underlying4 hy0
  obtain ⟨x1, e1, -⟩ := DataW.trod_bool Tryd.underlying4 hy1
  obtain ⟨x2, e2, -⟩ := DataW.trod_bool Tryd.underlying4 hy2
  simp only [List.cons.injEq, and_true] at e0 e1 e2
  subst e0 e1 e2
  exact ⟨x0, x1, x2, rfl⟩
end Go.Proofs.YtphjcphcgnjogaaDoor
