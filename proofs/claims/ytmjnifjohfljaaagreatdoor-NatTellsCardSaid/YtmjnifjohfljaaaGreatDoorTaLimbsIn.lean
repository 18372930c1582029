/-
  An argument that is a slice of limbs, opened: it reads as L.
-/
import Derived.Test.YtmjnifjohfljaaaGreatDoorTaGNV
import Derived.ProofKit
import Derived.OpenShut
import Derived.ShutString
import Derived.ChangeOld
import Derived.Below
import Derived.Deep.Slices
import Derived.Deep.Fields
import Derived.ChangeSame
namespace Go.Proofs.YtmjnifjohfljaaaGreatDoor
open Go.ChangeShapes Go.WideShapes Go.ChangeAt Go.RowKit Go.Deep

/-- A slice of limbs, opened. -/
def LimbsIn (w : World) (A : Option Addr) (L : List Nat) : Prop := LRead w A L ∧ Limb L
theorem LimbsIn.only {w w' : World} {A : Option Addr} {L : List Nat} (h : LimbsIn w A L) (ho : Only [] w w') : LimbsIn w' A L := ⟨h.1.only ho, h.2⟩

theorem limbs_in {H : Type} {enc : TypeId × Value → H} {w : World} {base : Nat} {spare : Nat → Bool} {held : Bool} {fuel : Nat} {cs : List Value} {x : DataW H × List MemPlace} {t : TypeId} (ht : Tryz.prog.underlying t = some (.slice 102))
    (h : DataW.trod enc Tryz.prog w base spare held fuel t cs = some x) :
    ∃ A c L, cs = [.slice A (List.length L) c] ∧ List.length L ≤ c ∧ c ≤ maxLen ∧ LimbsIn w A L := by
  rcases open_slice ht h with ⟨rfl, _⟩ | ⟨a, len, cap, m, n, D, Pl, rfl, _, hl, hcm, hm, _, hi⟩
  · exact ⟨none, 0, [], rfl, Nat.le_refl _, Nat.zero_le _, LRead.nil, limb_nil⟩
  · have hC : Tryz.prog.cellsOf 102 = 1 := by kernel_rfl
    have hlm : len ≤ m := by rw [hm]; split <;> omega
    have key : ∀ i, i < len → ∃ z : Nat, w.cell? (a.add i) = some (.int .u64 (z : Int)) ∧ z < BB := by
      intro i hil
      obtain ⟨cs', hc, ht⟩ := hi i (by omega)
      rw [hC] at hc
      obtain ⟨_, _, hat⟩ := World.cells?_some hc
      obtain ⟨z, rfl, _, hwf⟩ := DataW.trod_int Tryz.underlying102 ht
      have hwf' : 0 ≤ z ∧ z < 18446744073709551616 := by
        have e1 : IntKind.u64.min = 0 := by kernel_rfl
        have e2 : IntKind.u64.max = 18446744073709551615 := by kernel_rfl
        simp only [Lit.wf, e1, e2, Bool.and_eq_true, decide_eq_true_eq] at hwf
        omega
      have h0 := hat 0 (by omega)
      refine ⟨z.toNat, ?_, by rw [BB_val]; omega⟩
      rw [Int.toNat_of_nonneg hwf'.1]
      simpa [Addr.add] using h0
    have choose : ∀ len : Nat, (∀ i, i < len → ∃ z : Nat, w.cell? (a.add i) = some (.int .u64 (z : Int)) ∧ z < BB) → ∃ L : List Nat, L.length = len ∧ ∀ i, i < len → w.cell? (a.add i) = some (.int .u64 ((L[i]?.getD 0 : Nat) : Int)) ∧ L[i]?.getD 0 < BB := by
      intro len
      induction len with
      | zero => exact fun _ => ⟨[], rfl, fun i hi => by omega⟩
      | succ len ih =>
        intro key
        obtain ⟨L, hL, hall⟩ := ih (fun i hi => key i (by omega))
        obtain ⟨z, hz⟩ := key len (by omega)
        refine ⟨L ++ [z], by simp [hL], fun i hi => ?_⟩
        by_cases e : i = len
        · subst e
          rw [List.getElem?_append_right (by omega), hL]
          simpa using hz
        · rw [List.getElem?_append_left (by omega)]
          exact hall i (by omega)
    obtain ⟨L, hL, hall⟩ := choose len key
    refine ⟨some a, cap, L, by rw [hL], by omega, hcm, fun k hk => ?_, fun x hx => ?_⟩
    · have h0 := (hall k (by omega)).1
      obtain ⟨b, o, sp⟩ := a
      obtain rfl : sp = none := by
        have h1 := (hall 0 (by omega)).1
        simpa [Addr.add] using World.cell?_spot h1
      refine ⟨b, o, rfl, ?_⟩
      rwa [addr_plus] at h0
    · obtain ⟨i, hi, rfl⟩ := List.getElem_of_mem hx
      have := (hall i (by omega)).2
      rwa [List.getElem?_eq_getElem hi] at this
end Go.Proofs.YtmjnifjohfljaaaGreatDoor
