/-
  DyadTops returns true for every number; condition: the tables of powers of ten and de Bruijn's hold what the program's text lays into them. (The amount is below 2^Top and not below half of that; the reference's dyads are proved by value.)
-/
import Derived.Test.YtcknigodcjjahaaDoorOwn
import Derived.Test.YtcknigodcjjahaaDoorDoorN
import Derived.Test.YtcknigodcjjahaaDoorLimbsIn
import Derived.Test.YtcknigodcjjahaaDoorTie
import Derived.Test.YtcknigodcjjahaaDoorCards
import Derived.ChangeVars
import Derived.Test.YtcknigodcjjahaaDoorNumIn
import Derived.Test.YtcknigodcjjahaaDoorLawDtE
import Derived.ProofKit
import Derived.OpenShut
import Derived.ShutString
import Derived.ChangeOld
import Derived.Below
import Derived.Deep.Slices
import Derived.Deep.Fields
import Derived.ChangeSame
namespace Go.Proofs.YtcknigodcjjahaaDoor
open Go.ChangeShapes Go.WideShapes Go.ChangeAt Go.RowKit

set_option maxRecDepth 100000 in
theorem dyadTops_lifted (os : Os) (started : os.Started) (H : Type) (enc : TypeId × Value → H) :
    ReturnsInHanded {} Tryd.checked os 7 .any (fun w args => (Rows.dyadTopsSpec.pre enc Tryd.prog Tryd.f7 [] false w args ∧ laidMetH Tryd.prog Rows.dyadTopsRow.laid w) ∧ sizedMet enc Tryd.prog Tryd.f7 (OpenSpec.ofChange Rows.dyadTopsSpec) false w args)
      (Rows.dyadTopsSpec.post enc Tryd.prog Tryd.f7 false true false false) := by
  refine returnsInHanded_of_change_and (C := Tryd.checked) (X := fun w _ => laidMetH Tryd.prog Rows.dyadTopsRow.laid w) (fun _ _ _ hh h => h.of_heap hh) own started (by kernel_rfl) Tryd.func7
    (ChangeSpec.witness_at (enc := enc) (C := Tryd.checked) (os := os) (X := fun w _ => laidMetH Tryd.prog Rows.dyadTopsRow.laid w) false (laidWorld os) #[.agg #[.bool false, .slice none 0 0, .int .i64 0]] 8 rfl (by kernel_rfl) (by kernel_rfl) (by kernel_rfl) (by kernel_rfl) (by kernel_rfl) (laidWorld_met os _)) ?_
  intro W base args ds gs before hval0 hW _ _ hL _
  have hval : ∀ (j : Nat) t v, Tryd.f7.params[j]? = some t → args[j]? = some v → Value.okWide Tryd.prog W .any base t v := hval0
  have hW' := hW
  obtain ⟨p, q, hA0, hV, rfl, hfz, hnd⟩ := hW
  have hA : DataW.TrodAll enc Tryd.prog W 0 (fun _ => true) true Tryd.f7.params.toList args.toList ds p := hA0
  rw [Tryd.params7] at hA hval
  obtain ⟨htab, htab6⟩ := tabs_of_laid hL
  obtain ⟨v0, vs0, d0, ds0, p0, q0, hargs, rfl, rfl, h0, r0⟩ := trodAll_cons hA
  obtain ⟨rfl, rfl, rfl⟩ := trodAll_nil r0
  obtain rfl : args = #[v0] := by cases args; simp_all
  obtain ⟨rfl, rfl⟩ := trodVars_none hV
  have k0 := h0
  have lt0 : ∀ x ∈ p0, x.block < W.heap.size := by obtain ⟨m, hm⟩ := k0; exact DataW.trod_lt m _ _ _ hm
  obtain ⟨n0, a0, L0, cap0, e0, rfl, w0, hc0, hm0, hw0⟩ := num_in (hval 0 77 v0 rfl rfl) h0
  clear hA0 hval0
  have walk : Calls Tryd.prog 7 #[.agg #[.bool n0, .slice a0 L0.length cap0, .int .i64 e0]] W fun e w' => e = .returned (.bool true) ∧ Only [] W w' := dyadTops_any n0 a0 cap0 L0 e0 W w0 hc0 hm0 hw0 htab htab6
  refine walk.mono fun e W' ⟨he, bel0⟩ => ?_
  have bel := bel0.nil_below
  subst he
  exact ⟨_, rfl, _, _, _, [], _, [], hW', trodAll_mk1 (shut_bool Tryd.underlying4 _), (trodAll_cons_mk (Below.trod laidOut (by kernel_rfl) (of_decide_eq_true (by kernel_rfl)) k0 bel lt0) (trodAll_mk0)), rfl, bel.frame _, fun h => by cases h⟩

theorem dyadTops_row : Rows.DyadTopsSaid :=
  OpenClaim.holds_of_wide 7 Tryd.f7 rfl rfl rfl rfl rfl rfl rfl ⟨rfl, rfl, rfl, rfl, rfl⟩ rfl rfl rfl rfl rfl (by kernel_rfl) Tryd.func7 (by kernel_rfl)
    (of_decide_eq_true (by kernel_rfl)) (by unfold Func.isWrapper; first | (rw [if_pos (by decide +kernel)]; kernel_rfl) | (rw [if_neg (by decide +kernel)]; exact ⟨rfl, rfl⟩))
    (fun os started H enc _ => dyadTops_lifted os started H enc)

/-- THE STATEMENT. -/
theorem dyadTops_holds : Rows.DyadTopsCardSaid :=
  Claim7.holds_tied_plain_at .later [] [.data, .data, .data] true _ false
    dyadTops_row (fun _ h => by cases h) (by kernel_rfl) (fun _ h => by cases h) dyadTops_row_tie rfl ⟨rfl, rfl⟩ (by kernel_rfl) rfl
    (fun f fn hf hfn => by
      obtain rfl : f = 7 := Option.some.inj ((show Tryd.prog.funcNamed "compass/compasslaw3.DyadTops" = some 7 by kernel_rfl).symm.trans hf) |>.symm
      obtain rfl : fn = Tryd.f7 := (Option.some.inj (Tryd.func7.symm.trans hfn)).symm
      exact ⟨by kernel_rfl, fun j t ht => by
        rw [Tryd.params7] at ht
        have h3 : t = 77 := by
          rcases j with _ | j
          · simpa using ht.symm
          · simp at ht
        rcases h3 with rfl
        · exact (show Tryd.prog.wantsStandIn 77 = false by kernel_rfl)⟩)
    (by kernel_rfl)
#print axioms dyadTops_holds
end Go.Proofs.YtcknigodcjjahaaDoor
