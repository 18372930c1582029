/-
  An argument that is a slice of slices of limbs, opened.
-/
import Derived.Test.YtafipkighpjknaaDoorLimbsIn
import Derived.ProofKit
import Derived.OpenShut
import Derived.ShutString
import Derived.ChangeOld
import Derived.Below
import Derived.Deep.Slices
import Derived.Deep.Fields
import Derived.ChangeSame
namespace Go.Proofs.YtafipkighpjknaaDoor
open Go.ChangeShapes Go.WideShapes Go.ChangeAt Go.RowKit Go.Deep

/-- A slice among others. -/
structure LI1 where
  a : Option Addr
  c : Nat
  xs : List Nat
def LI1.v (x : LI1) : Value := .slice x.a x.xs.length x.c
def LI1.ok (w : World) (x : LI1) : Prop := LimbsIn w x.a x.xs ∧ x.xs.length ≤ x.c ∧ x.c ≤ maxLen
/-- A slice of slices, opened. -/
def LimbssIn (w : World) (A : Option Addr) (L : List LI1) : Prop := (∀ (j : Nat) (hj : j < L.length), ∃ b o, A = some ⟨b, o, none⟩ ∧ w.cell? ⟨b, o + j, none⟩ = some L[j].v) ∧ ∀ x ∈ L, LI1.ok w x
theorem limbss_in {H : Type} {enc : TypeId × Value → H} {w : World} {base : Nat} {spare : Nat → Bool} {held : Bool} {fuel : Nat} {cs : List Value} {x : DataW H × List MemPlace} {t : TypeId} (ht : Tryd.prog.underlying t = some (.slice 22))
    (h : DataW.trod enc Tryd.prog w base spare held fuel t cs = some x) :
    ∃ A c L, cs = [.slice A (List.length L) c] ∧ List.length L ≤ c ∧ c ≤ maxLen ∧ LimbssIn w A L := by
  rcases open_slice ht h with ⟨rfl, _⟩ | ⟨a, len, cap, m, n, D, Pl, rfl, _, hl, hcm, hm, _, hi⟩
  · exact ⟨none, 0, [], rfl, Nat.le_refl _, Nat.zero_le _, fun k hk => by simp at hk, fun v hv => by simp at hv⟩
  · have hC : Tryd.prog.cellsOf 22 = 1 := by kernel_rfl
    have hlm : len ≤ m := by rw [hm]; split <;> omega
    have key : ∀ i, i < len → ∃ z : LI1, w.cell? (a.add i) = some z.v ∧ LI1.ok w z := by
      intro i hil
      obtain ⟨cs', hc, ht⟩ := hi i (by omega)
      rw [hC] at hc
      obtain ⟨_, _, hat⟩ := World.cells?_some hc
      obtain ⟨A, c, L, rfl, g1, g2, hin⟩ := limbs_in Tryd.underlying22 ht
      have h0 := hat 0 (by omega)
      exact ⟨⟨A, c, L⟩, by simpa [Addr.add, LI1.v] using h0, hin, g1, g2⟩
    have choose : ∀ len : Nat, (∀ i, i < len → ∃ z : LI1, w.cell? (a.add i) = some z.v ∧ LI1.ok w z) → ∃ L : List LI1, L.length = len ∧ ∀ (i : Nat) (hi : i < L.length), w.cell? (a.add i) = some L[i].v ∧ LI1.ok w L[i] := by
      intro len
      induction len with
      | zero => exact fun _ => ⟨[], rfl, fun i hi => by simp at hi⟩
      | succ len ih =>
        intro key
        obtain ⟨L, hL, hall⟩ := ih (fun i hi => key i (by omega))
        obtain ⟨z, hz⟩ := key len (by omega)
        refine ⟨L ++ [z], by simp [hL], fun i hi => ?_⟩
        by_cases e : i < L.length
        · rw [List.getElem_append_left e]
          exact hall i e
        · simp only [List.length_append, List.length_cons, List.length_nil] at hi
          obtain rfl : i = L.length := by omega
          rw [List.getElem_append_right (by omega)]
          subst hL
          simpa using hz
    obtain ⟨L, hL, hall⟩ := choose len key
    refine ⟨some a, cap, L, by rw [hL], by omega, hcm, fun k hk => ?_, fun v hv => ?_⟩
    · have h0 := (hall k hk).1
      obtain ⟨b, o, sp⟩ := a
      obtain rfl : sp = none := by
        have h1 := (hall 0 (by omega)).1
        simpa [Addr.add] using World.cell?_spot h1
      refine ⟨b, o, rfl, ?_⟩
      rwa [addr_plus] at h0
    · obtain ⟨i, hi, rfl⟩ := List.getElem_of_mem hv
      exact (hall i hi).2
end Go.Proofs.YtafipkighpjknaaDoor
