/-
  DagMakes returns true for every list of floats, every int and every list of ids; no condition. (What the dag makes is what the reference puts, number for number.)
-/
import Derived.Test.YtkiongpfpjfaaaaRows
import Derived.Test.YtkiongpfpjfaaaaFloatsIn
import Derived.Test.YtkiongpfpjfaaaaMakesC
import Derived.Test.YtkiongpfpjfaaaaMakesD
namespace Go.Proofs.Ytkiongpfpjfaaaa
open Go.ChangeShapes Go.WideShapes Go.ChangeAt Go.RowKit

set_option maxRecDepth 100000 in
theorem dagMakes_lifted (os : Os) (started : os.Started) (H : Type) (enc : TypeId × Value → H) :
    ReturnsInHanded {} Try.checked os 6 .any (Rows.dagMakesSpec.pre6 enc Try.prog Try.f6 Rows.dagMakesRow.domain false) (Rows.dagMakesSpec.post enc Try.prog Try.f6 false true false false) := by
  refine returnsInHanded_of_change (C := Try.checked) own started (by kernel_rfl) Try.func6
    (ChangeSpec.witness6 (enc := enc) (C := Try.checked) false ⟨#[], #[.slice none 0 0, .int .i64 0, .slice none 0 0], []⟩ 8 (by kernel_rfl) (by kernel_rfl) (by kernel_rfl) (by kernel_rfl)) ?_
  intro W base args ds gs before hval0 hW hcnd _
  have hval : ∀ (j : Nat) t v, Try.f6.params[j]? = some t → args[j]? = some v → Value.okWide Try.prog W .any base t v := hval0
  have hW' := hW
  obtain ⟨p, q, hA0, hV, rfl, hfz, hnd⟩ := hW
  have hA : DataW.TrodAll enc Try.prog W 0 (fun _ => true) true Try.f6.params.toList args.toList ds p := hA0
  rw [Try.params6] at hA hval
  obtain ⟨v0, vs0, d0, ds0, p0, q0, hargs, rfl, rfl, h0, r0⟩ := trodAll_cons hA
  obtain ⟨v1, vs1, d1, ds1, p1, q1, rfl, rfl, rfl, h1, r1⟩ := trodAll_cons r0
  obtain ⟨v2, vs2, d2, ds2, p2, q2, rfl, rfl, rfl, h2, r2⟩ := trodAll_cons r1
  obtain ⟨rfl, rfl, rfl⟩ := trodAll_nil r2
  obtain rfl : args = #[v0, v1, v2] := by cases args; simp_all
  obtain ⟨rfl, rfl⟩ := trodVars_none hV
  obtain ⟨a0, len0, cap0, rfl⟩ := okWide_slice Try.underlying48 (hval 0 48 v0 rfl rfl)
  obtain ⟨a2, len2, cap2, rfl⟩ := okWide_slice Try.underlying45 (hval 2 45 v2 rfl rfl)
  have k0 := h0
  have k2 := h2
  have lt0 : ∀ x ∈ p0, x.block < W.heap.size := by obtain ⟨m, hm⟩ := k0; exact DataW.trod_lt m _ _ _ hm
  have lt2 : ∀ x ∈ p2, x.block < W.heap.size := by obtain ⟨m, hm⟩ := k2; exact DataW.trod_lt m _ _ _ hm
  obtain ⟨L, w0, hl0⟩ : ∃ L, FloatsIn W a0 L ∧ len0 = L.length := by
    obtain ⟨fuel, hf⟩ := h0
    obtain ⟨A, c, L, hcs, _, _, hin⟩ := floats_in Try.underlying48 hf
    simp [Value.cells] at hcs
    obtain ⟨rfl, rfl, rfl⟩ := hcs
    exact ⟨L, hin, rfl⟩
  subst hl0
  obtain ⟨is, w2, hl2, hc1, hc2⟩ : ∃ is, IntsIn W a2 is ∧ len2 = is.length ∧ is.length ≤ cap2 ∧ cap2 ≤ maxLen := by
    obtain ⟨fuel, hf⟩ := h2
    obtain ⟨A, c, L, hcs, g1, g2, hin⟩ := ints_in Try.underlying45 hf
    simp [Value.cells] at hcs
    obtain ⟨rfl, rfl, rfl⟩ := hcs
    exact ⟨L, hin, rfl, g1, g2⟩
  subst hl2
  obtain ⟨x, rfl, rfl, rfl, hxw⟩ := open_int Try.underlying3 (hval 1 3 v1 rfl rfl) h1
  clear hA0 hval0
  have walk : Calls Try.prog 6 #[.slice a0 L.length cap0, .int .i64 x, .slice a2 is.length cap2] W fun e w' => e = .returned (.bool true) ∧ Only [] W w' := by
    by_cases hn : 20 < L.length ∨ (¬ 20 < L.length ∧ 12 < is.length)
    · exact makes_out a0 a2 L.length cap0 is.length cap2 x W hn
    · have hfl : ∀ k, k < L.length → ∃ b o, a0 = some ⟨b, o, none⟩ ∧ W.cell? ⟨b, o + k, none⟩ = some (.float .f64 (L[k]?.getD 0)) ∧ L[k]?.getD 0 < 2 ^ 64 := fun k hk => by
        obtain ⟨b, o, e, h⟩ := w0 k hk
        exact ⟨b, o, e, h k hk⟩
      cases is with
      | nil => exact makes_nil a0 a2 L cap0 cap2 x W (by omega) hfl
      | cons y ys =>
        obtain ⟨b, o, rfl, hc⟩ := w2 0 (by simp)
        simp only [List.length_cons] at hn hc hc1
        have hx0 : W.cell? ⟨b, o, none⟩ = some (.int .i64 y) := by simpa using hc 0 (by omega)
        have hxs0 : ∀ j, j < ys.length → W.cell? ⟨b, o + (j + 1), none⟩ = some (.int .i64 (ys[j]?.getD 0)) := fun j hj => by simpa using hc (j + 1) (by omega)
        exact makes_cons a0 L cap0 b o cap2 y ys x W (by omega) (by omega) ⟨hc1, hc2⟩ hfl hx0 hxs0
  refine walk.mono fun e W' ⟨he, bel0⟩ => ?_
  have bel := bel0.nil_below
  subst he
  exact ⟨_, rfl, _, _, _, [], _, [], hW', trodAll_mk1 (shut_bool Try.underlying4 _), (trodAll_cons_mk (Below.trod laidOut (by kernel_rfl) (of_decide_eq_true (by kernel_rfl)) k0 bel lt0) (trodAll_cons_mk (shut_int Try.underlying3 hxw) (trodAll_cons_mk (Below.trod laidOut (by kernel_rfl) (of_decide_eq_true (by kernel_rfl)) k2 bel lt2) trodAll_mk0))), rfl, bel.frame _, fun h => by cases h⟩

theorem over_dagMakes : Rows.DagMakesSaid :=
  OpenClaim.holds_of_wide 6 Try.f6 rfl rfl rfl rfl rfl rfl rfl ⟨rfl, rfl, rfl, rfl, rfl⟩ rfl rfl rfl rfl rfl (by kernel_rfl) Try.func6 (by kernel_rfl)
    (of_decide_eq_true (by kernel_rfl)) (by unfold Func.isWrapper; first | (rw [if_pos (by decide +kernel)]; kernel_rfl) | (rw [if_neg (by decide +kernel)]; exact ⟨rfl, rfl⟩))
    (fun os started H enc _ => dagMakes_lifted os started H enc)

/-- THE STATEMENT. -/
theorem dagMakes_holds : Rows.DagMakesSaid := over_dagMakes
#print axioms dagMakes_holds
end Go.Proofs.Ytkiongpfpjfaaaa
