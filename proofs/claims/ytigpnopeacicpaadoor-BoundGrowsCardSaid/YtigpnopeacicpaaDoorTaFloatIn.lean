/-
  An argument that is a slice of floats, opened (beside limbs): it reads as L.
-/
import Derived.Test.YtigpnopeacicpaaDoorTaGWhB
import Derived.Test.YtigpnopeacicpaaDoorTaNodesIn
import Derived.ProofKit
import Derived.OpenShut
import Derived.ShutString
import Derived.ChangeOld
import Derived.Below
import Derived.Deep.Slices
import Derived.Deep.Fields
import Derived.ChangeSame
namespace Go.Proofs.YtigpnopeacicpaaDoor
open Go.ChangeShapes Go.WideShapes Go.ChangeAt Go.RowKit Go.Deep

def FloatsIn (w : World) (A : Option Addr) (L : List Nat) : Prop := ∀ j, j < L.length → ∃ b o, A = some ⟨b, o, none⟩ ∧ ∀ i, i < L.length → w.cell? ⟨b, o + i, none⟩ = some (.float .f64 (L[i]?.getD 0)) ∧ L[i]?.getD 0 < 2 ^ 64

theorem floats_in {H : Type} {enc : TypeId × Value → H} {w : World} {base : Nat} {spare : Nat → Bool} {held : Bool} {fuel : Nat} {cs : List Value} {x : DataW H × List MemPlace} {t : TypeId} (ht : Tryd.prog.underlying t = some (.slice 29))
    (h : DataW.trod enc Tryd.prog w base spare held fuel t cs = some x) :
    ∃ A c L, cs = [.slice A (List.length L) c] ∧ List.length L ≤ c ∧ c ≤ maxLen ∧ FloatsIn w A L := by
  rcases open_slice ht h with ⟨rfl, _⟩ | ⟨a, len, cap, m, n, D, Pl, rfl, _, hl, hcm, hm, _, hi⟩
  · exact ⟨none, 0, [], rfl, Nat.le_refl _, Nat.zero_le _, fun k hk => by simp at hk⟩
  · have hC : Tryd.prog.cellsOf 29 = 1 := by kernel_rfl
    have hlm : len ≤ m := by rw [hm]; split <;> omega
    have key : ∀ i, i < len → ∃ z : Nat, w.cell? (a.add i) = some (.float .f64 z) ∧ z < 2 ^ 64 := by
      intro i hil
      obtain ⟨cs', hc, ht⟩ := hi i (by omega)
      rw [hC] at hc
      obtain ⟨_, _, hat⟩ := World.cells?_some hc
      obtain ⟨z, rfl, hz⟩ := trod_float Tryd.underlying29 ht
      have h0 := hat 0 (by omega)
      refine ⟨z, ?_, by simpa [Lit.wf] using hz⟩
      simpa [Addr.add] using h0
    have choose : ∀ len : Nat, (∀ i, i < len → ∃ z : Nat, w.cell? (a.add i) = some (.float .f64 z) ∧ z < 2 ^ 64) → ∃ L : List Nat, L.length = len ∧ ∀ i, i < len → w.cell? (a.add i) = some (.float .f64 (L[i]?.getD 0)) ∧ L[i]?.getD 0 < 2 ^ 64 := by
      intro len
      induction len with
      | zero => exact fun _ => ⟨[], rfl, fun i hi => by omega⟩
      | succ len ih =>
        intro key
        obtain ⟨L, hL, hall⟩ := ih (fun i hi => key i (by omega))
        obtain ⟨z, hz⟩ := key len (by omega)
        refine ⟨L ++ [z], by simp [hL], fun i hi => ?_⟩
        by_cases e : i = len
        · subst e
          rw [List.getElem?_append_right (by omega), hL]
          simpa using hz
        · rw [List.getElem?_append_left (by omega)]
          exact hall i (by omega)
    obtain ⟨L, hL, hall⟩ := choose len key
    refine ⟨some a, cap, L, by rw [hL], by omega, hcm, fun k hk => ?_⟩
    have h0 := hall 0 (by omega)
    obtain ⟨b, o, sp⟩ := a
    obtain rfl : sp = none := by simpa [Addr.add] using World.cell?_spot h0.1
    refine ⟨b, o, rfl, fun i hi => ?_⟩
    have := hall i (by omega)
    have ha : (⟨b, o, none⟩ : Addr).add i = ⟨b, o + i, none⟩ := by
      unfold Addr.add
      by_cases h1 : i = 0 <;> simp [h1]
    rwa [ha] at this
end Go.Proofs.YtigpnopeacicpaaDoor
