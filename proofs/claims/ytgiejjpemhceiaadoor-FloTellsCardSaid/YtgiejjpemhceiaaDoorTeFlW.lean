/-
  A float's dyad, turned back into a float, is the float.
-/
import Derived.Test.YtgiejjpemhceiaaDoorTeFlY
namespace Go.Proofs.YtgiejjpemhceiaaDoor
set_option linter.unusedSimpArgs false
namespace Fl
theorem ru_pos {r : Nat} (h : r ≠ 0) : 0 < ru r := by
  have := ru_lt.2 (show 0 < r by omega)
  rwa [ru_zero] at this
theorem fD_neg {s : Bool} {r : Nat} (h : r ≠ 0) : (fD s r).z ≠ 0 ∧ decide ((fD s r).z < 0) = s ∧ aq (fD s r) = ru r := by
  have hp := ru_pos h
  have hq := fD_val s r
  cases s
  · simp only [Bool.false_eq_true, if_false] at hq
    have h1 : 0 < (fD false r).z := q_pos.1 (by rw [hq]; exact hp)
    refine ⟨by omega, by simp; omega, ?_⟩
    rw [aq_q, if_neg (by simp; omega), hq]
  · simp only [if_true] at hq
    have h1 : (fD true r).z < 0 := q_neg.1 (by rw [hq]; grind)
    refine ⟨by omega, by simp; omega, ?_⟩
    rw [aq_q, if_pos (by simp; omega), hq]
    grind
theorem flW_back (up s : Bool) {r : Nat} (h : r < INF) (h0 : r ≠ 0) : flW up (fD s r) = wordB s r := by
  obtain ⟨h1, h2, h3⟩ := fD_neg (s := s) h0
  obtain ⟨f, ex, hb, hw⟩ := flW_spec up h1
  have hlo := hb.lo
  have hhi := hb.hi
  have hex := hb.ex
  rw [h3] at hlo hhi hex
  have e1 : f = r := by
    have a1 := ru_le.1 hlo
    have a2 := ru_lt.1 hhi
    omega
  subst e1
  have e2 : ex = true := by
    cases ex
    · exfalso; simp at hex
    · rfl
  subst e2
  rw [hw, h2]
  simp only [if_true, if_neg h0]
  rw [Nat.min_eq_left (by omega), Nat.min_eq_left (by omega)]
  split <;> rfl
end Fl
end Go.Proofs.YtgiejjpemhceiaaDoor
