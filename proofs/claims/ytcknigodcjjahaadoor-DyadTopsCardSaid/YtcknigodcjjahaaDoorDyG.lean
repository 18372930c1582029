/-
  Dyads: widths.
-/
import Derived.Test.YtcknigodcjjahaaDoorDyF
import Derived.Test.YtcknigodcjjahaaDoorDyT
namespace Go.Proofs.YtcknigodcjjahaaDoor
set_option linter.unusedSimpArgs false
open Go.RowKit

theorem KB.set3 {w0 w : World} {L : List EB} (h : KB w0 w L) (i : Nat) {g : Nat} {t : TypeId} {a b c u v x : Value} (hi : L[i]? = some ⟨g, t, [a, b, c]⟩) (hne : ∀ (j : Nat) (y : EB), L[j]? = some y → j ≠ i → y.g ≠ g) (hg : w0.heap.size ≤ g) :
    KB w0 (((w.setCell ⟨g, 0, none⟩ u).setCell ⟨g, 1, none⟩ v).setCell ⟨g, 2, none⟩ x) (L.set i ⟨g, t, [u, v, x]⟩) :=
  ⟨h.only.trans (only_set3 w g u v x) (fun k hk => .inr (by simp at hk; omega)), fun j y hj => by
    by_cases hij : i = j
    · subst hij
      rw [List.getElem?_set_self (by have := List.getElem?_eq_some_iff.1 hi; exact this.1)] at hj
      obtain rfl := (Option.some.inj hj).symm
      exact (((h.all i _ hi).set_ 0 u).set_ 1 v).set_ 2 x
    · rw [List.getElem?_set_ne hij] at hj
      exact (h.all j y hj).only (only_set3 w g u v x) (by simp; exact hne j y hj (Ne.symm hij))⟩
set_option maxHeartbeats 800000 in
theorem width_any (p : Int) (w : World) : Calls Tryd.prog 113 #[.int .i64 p] w fun e w' => e = .returned (.int .i64 (widthP p : Int)) ∧ w = w' := by
  have h : (widthP p : Int) = max 1 (min p 65536) := by unfold widthP; omega
  rw [h]
  clear h
  go_enter Tryd.func113, Tryd.ntmps113
  go_wp2
  go_ret
  exact ⟨rfl, rfl⟩
set_option maxHeartbeats 800000 in
theorem outward_any (neg : Bool) (dir : Int) (w : World) : Calls Tryd.prog 134 #[.bool neg, .int .i64 dir] w fun e w' => e = .returned (.bool (neg != decide (0 ≤ dir))) ∧ w = w' := by
  by_cases h : 0 ≤ dir
  · have hd : decide (0 ≤ dir) = true := decide_eq_true h
    cases neg
    all_goals
      go_enter Tryd.func134, Tryd.ntmps134
      go_wp2
      go_ret
      exact ⟨by simp [hd, h], rfl⟩
  · have hd : decide (0 ≤ dir) = false := decide_eq_false h
    cases neg
    all_goals
      go_enter Tryd.func134, Tryd.ntmps134
      go_wp2
      go_ret
      exact ⟨by simp [hd, h], rfl⟩

end Go.Proofs.YtcknigodcjjahaaDoor
