/-
  GapAt returns true for every float64, the infinities and what is no number among them; no condition.
-/
import Derived.Test.YtkiongpfpjfaaaaRows
import Derived.Test.YtkiongpfpjfaaaaNodesIn
import Derived.Test.YtkiongpfpjfaaaaGapC
namespace Go.Proofs.Ytkiongpfpjfaaaa
open Go.ChangeShapes Go.WideShapes Go.ChangeAt Go.RowKit

set_option maxRecDepth 100000 in
theorem gapAt_lifted (os : Os) (started : os.Started) (H : Type) (enc : TypeId × Value → H) :
    ReturnsInHanded {} Try.checked os 4 .any (Rows.gapAtSpec.pre6 enc Try.prog Try.f4 Rows.gapAtRow.domain false) (Rows.gapAtSpec.post enc Try.prog Try.f4 false true false false) := by
  refine returnsInHanded_of_change (C := Try.checked) own started (by kernel_rfl) Try.func4
    (ChangeSpec.witness6 (enc := enc) (C := Try.checked) false ⟨#[], #[.float .f64 0], []⟩ 8 (by kernel_rfl) (by kernel_rfl) (by kernel_rfl) (by kernel_rfl)) ?_
  intro W base args ds gs before hval0 hW hcnd _
  have hval : ∀ (j : Nat) t v, Try.f4.params[j]? = some t → args[j]? = some v → Value.okWide Try.prog W .any base t v := hval0
  have hW' := hW
  obtain ⟨p, q, hA0, hV, rfl, hfz, hnd⟩ := hW
  have hA : DataW.TrodAll enc Try.prog W 0 (fun _ => true) true Try.f4.params.toList args.toList ds p := hA0
  rw [Try.params4] at hA hval
  obtain ⟨v0, vs0, d0, ds0, p0, q0, hargs, rfl, rfl, h0, r0⟩ := trodAll_cons hA
  obtain ⟨rfl, rfl, rfl⟩ := trodAll_nil r0
  obtain rfl : args = #[v0] := by cases args; simp_all
  obtain ⟨rfl, rfl⟩ := trodVars_none hV
  obtain ⟨v, rfl, rfl, rfl, hw⟩ := open_float Try.underlying30 (hval 0 30 v0 rfl rfl) h0
  clear hA0 hval0
  have hv : Hid (v < 2 ^ 64) := by show v < 2 ^ 64; simpa [Lit.wf] using hw
  have walk : Calls Try.prog 4 #[.float .f64 v] W fun e w' => e = .returned (.bool true) ∧ Only [] W w' := by
    cases h : finB v
    · exact gapat_no v hv h W
    · exact gapat_yes v hv h W
  refine walk.mono fun e W' ⟨he, bel0⟩ => ?_
  have bel := bel0.nil_below
  subst he
  exact ⟨_, rfl, _, _, _, [], _, [], hW', trodAll_mk1 (shut_bool Try.underlying4 _), trodAll_mk1 (shut_float Try.underlying30 hw), rfl, bel.frame _, fun h => by cases h⟩

theorem over_gapAt : Rows.GapAtSaid :=
  OpenClaim.holds_of_wide 4 Try.f4 rfl rfl rfl rfl rfl rfl rfl ⟨rfl, rfl, rfl, rfl, rfl⟩ rfl rfl rfl rfl rfl (by kernel_rfl) Try.func4 (by kernel_rfl)
    (of_decide_eq_true (by kernel_rfl)) (by unfold Func.isWrapper; first | (rw [if_pos (by decide +kernel)]; kernel_rfl) | (rw [if_neg (by decide +kernel)]; exact ⟨rfl, rfl⟩))
    (fun os started H enc _ => gapAt_lifted os started H enc)

/-- THE STATEMENT. -/
theorem gapAt_holds : Rows.GapAtSaid := over_gapAt
#print axioms gapAt_holds
end Go.Proofs.Ytkiongpfpjfaaaa
