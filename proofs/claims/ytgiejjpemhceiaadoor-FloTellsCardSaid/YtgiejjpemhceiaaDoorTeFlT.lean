/-
  The reference's step from a float to the next one: it is the program's.
-/
import Derived.Test.YtgiejjpemhceiaaDoorTeFlR
import Derived.Test.YtgiejjpemhceiaaDoorTeFlD
namespace Go.Proofs.YtgiejjpemhceiaaDoor
set_option linter.unusedSimpArgs false
open Go.RowKit

namespace Fl
set_option maxHeartbeats 1600000 in
set_option maxRecDepth 100000 in
theorem rstep_core (v u : Nat) (dir : Int) (nn z i s : Bool) (w : World) (hd : decide (dir < 0) = false) (O1 : (FloatKind.f64.format.order v v == some .eq) = nn) (O2 : (FloatKind.f64.format.order v 0 == some .eq) = z) (hi : ((v : Int) == 9218868437227405312) = i) (hs : ((v : Int) / 9223372036854775808 == 1) = s) (hv : (v : Int) < 18446744073709551615) (hv0 : s = true → 0 < v)
    (hu : Hid ((if nn then (if z then 1 else if i then v else if s then v - 1 else v + 1) else v) = u)) :
    Calls Tryd.prog 49 #[.float .f64 v, .int .i64 dir] w fun e w' => e = .returned (.float .f64 u) ∧ w = w' := by
  have hb := bits_run
  have hf1 : ∀ w : World, (callFunc 113 #[.int .u64 ((v : Int) + 1)]).run Tryd.prog w = .ok (.value (.float .f64 (v + 1))) w := fun w => frombits_run (v + 1) w
  replace hu := hu.out
  simp only [decide_eq_false_iff_not] at hd
  cases nn
  · have O1n : (FloatKind.f64.format.order v v != some .eq) = true := by rw [bne, O1]; rfl
    simp only [Bool.false_eq_true, if_false] at hu
    subst hu
    clear hv0 hv O2 hi hs hf1
    go_enter Tryd.func49, Tryd.ntmps49
    go_wp2_with fail
    go_ret
    exact ⟨rfl, rfl⟩
  · have O1n : (FloatKind.f64.format.order v v != some .eq) = false := by rw [bne, O1]; rfl
    cases z
    · cases i
      · cases s
        · simp only [Bool.false_eq_true, if_false, if_true] at hu
          subst hu
          clear hv0
          go_enter Tryd.func49, Tryd.ntmps49
          go_wp2_with fail
          go_ret
          exact ⟨rfl, rfl⟩
        · have hf2 : ∀ w : World, (callFunc 113 #[.int .u64 ((v : Int) - 1)]).run Tryd.prog w = .ok (.value (.float .f64 (v - 1))) w := fun w => by
            have := frombits_run (v - 1) w
            have h0 := hv0 rfl
            rwa [show ((v - 1 : Nat) : Int) = (v : Int) - 1 by omega] at this
          have hvp : (0 : Int) < (v : Int) := by have := hv0 rfl; omega
          simp only [Bool.false_eq_true, if_false, if_true] at hu
          subst hu
          clear hv0 hf1
          go_enter Tryd.func49, Tryd.ntmps49
          go_wp2_with fail
          go_ret
          exact ⟨rfl, rfl⟩
      · simp only [Bool.false_eq_true, if_false, if_true] at hu
        subst hu
        clear hv0 hv hs hf1
        go_enter Tryd.func49, Tryd.ntmps49
        go_wp2_with fail
        go_ret
        exact ⟨rfl, rfl⟩
    · have hf3 : ∀ w : World, (callFunc 113 #[.int .u64 1]).run Tryd.prog w = .ok (.value (.float .f64 1)) w := fun w => frombits_run 1 w
      simp only [if_true] at hu
      subst hu
      clear hv0 hv hs hf1 hi
      go_enter Tryd.func49, Tryd.ntmps49
      go_wp2_with fail
      go_ret
      exact ⟨rfl, rfl⟩
theorem rstep_up (s : Bool) {r : Nat} (h : r < 9223372036854775807) (dir : Int) (hd : 0 ≤ dir) (u : Nat) (hu : stepW true s r = u) (w : World) : Calls Tryd.prog 49 #[.float .f64 (wordB s r), .int .i64 dir] w fun e w' => e = .returned (.float .f64 u) ∧ w = w' := by
  have hz : (0 : Nat) = wordB false 0 := rfl
  have hI := inf_val
  have hs : (((wordB s r : Nat) : Int) / 9223372036854775808 == 1) = s := by
    cases s
    · simp only [wordB, Bool.false_eq_true, if_false]
      rw [show ((r : Int) / 9223372036854775808) = 0 by omega]; rfl
    · simp only [wordB, if_true]
      rw [show (((9223372036854775808 + r : Nat) : Int) / 9223372036854775808) = 1 by omega]; rfl
  have hi : (((wordB s r : Nat) : Int) == 9218868437227405312) = (!s && decide (r = INF)) := by
    rw [Bool.eq_iff_iff, beq_iff_eq]
    cases s
    · simp only [wordB, Bool.false_eq_true, if_false, Bool.not_false, Bool.true_and, decide_eq_true_eq]
      omega
    · simp only [wordB, if_true, Bool.not_true, Bool.false_and, Bool.false_eq_true, iff_false]
      omega
  have hlt : ((wordB s r : Nat) : Int) < 18446744073709551615 := by cases s <;> simp only [wordB, Bool.false_eq_true, if_false, if_true] <;> omega
  by_cases h1 : r ≤ INF
  · have o1 : (FloatKind.f64.format.order (wordB s r) (wordB s r) == some .eq) = true := by
      show (Ieee.double.order _ _ == _) = true
      rw [ord_rung s s h1 h1, compare_eq_iff.2 rfl]
      rfl
    have o2 : (FloatKind.f64.format.order (wordB s r) 0 == some .eq) = decide (r = 0) := by
      show (Ieee.double.order _ _ == _) = _
      rw [hz, ord_rung s false h1 (Nat.zero_le _), cmp_beq, Bool.eq_iff_iff, decide_eq_true_eq, decide_eq_true_eq, compare_eq_iff]
      cases s <;> simp only [sg, Bool.false_eq_true, if_false, if_true] <;> omega
    refine rstep_core _ u dir _ _ _ _ w (decide_eq_false (by omega)) o1 o2 hi hs hlt (fun e => by subst e; simp only [wordB, if_true]; omega) ?_
    show _ = _
    rw [← hu]
    unfold stepW
    rw [if_pos rfl, if_neg (show ¬ INF < r by omega)]
    by_cases h0 : r = 0
    · subst h0; rfl
    · rw [if_neg (by simpa using h0), if_neg h0]
      by_cases h2 : r = INF ∧ s = !true
      · obtain ⟨h2, h3⟩ := h2
        subst h3
        rw [if_pos (by simp [h2]), if_pos ⟨h2, rfl⟩]
      · rw [if_neg h2]
        cases s
        · rw [if_neg (by simp at h2; simpa using h2)]
          rfl
        · rw [if_neg (by simp)]
          rfl
  · have o1 : (FloatKind.f64.format.order (wordB s r) (wordB s r) == some .eq) = false := by
      show (Ieee.double.order _ _ == _) = false
      rw [(ord_nan s (by omega) (by omega) _).1]
      rfl
    refine rstep_core _ u dir _ _ _ _ w (decide_eq_false (by omega)) o1 rfl hi hs hlt (fun e => by subst e; simp only [wordB, if_true]; omega) ?_
    show _ = _
    rw [← hu]
    unfold stepW
    rw [if_neg (by simp), if_pos (by omega)]
theorem step_flip (s : Bool) {r : Nat} (h : r ≤ INF) : ∃ a q, stepW true (!s) r = wordB a q ∧ stepW false s r = wordB (!a) q ∧ q < 9223372036854775808 := by
  have hI := inf_val
  unfold stepW
  rw [if_neg (show ¬ INF < r by omega), if_neg (show ¬ INF < r by omega)]
  by_cases h0 : r = 0
  · rw [if_pos h0, if_pos h0]
    exact ⟨false, 1, rfl, rfl, by omega⟩
  · rw [if_neg h0, if_neg h0]
    by_cases h2 : r = INF ∧ s = true
    · obtain ⟨h2, h3⟩ := h2
      subst h3
      rw [if_pos ⟨h2, rfl⟩, if_pos ⟨h2, rfl⟩]
      exact ⟨false, r, rfl, rfl, by omega⟩
    · cases s
      · rw [if_neg (show ¬ (r = INF ∧ (!false) = !true) by rintro ⟨_, h⟩; cases h), if_neg (show ¬ (r = INF ∧ false = !false) by rintro ⟨_, h⟩; cases h), if_neg (show ¬ ((!(!false)) = true) by decide), if_neg (show ¬ ((!false) = false) by decide)]
        exact ⟨true, r - 1, by rw [Bool.not_false, word_pre true (by omega)], by rw [word_pre false (by omega)]; rfl, by omega⟩
      · have h3 : ¬ r = INF := fun hc => h2 ⟨hc, rfl⟩
        rw [if_neg (show ¬ (r = INF ∧ (!true) = !true) from fun hc => h3 hc.1), if_neg (show ¬ (r = INF ∧ true = !false) from fun hc => h3 hc.1), if_pos (show (!(!true)) = true from rfl), if_pos (show (!true) = false from rfl)]
        exact ⟨false, r + 1, by rw [Bool.not_true, word_suc], by rw [word_suc]; rfl, by omega⟩
set_option maxHeartbeats 1600000 in
set_option maxRecDepth 100000 in
theorem rstep_dn_core (v nv u' u : Nat) (dir : Int) (w : World) (hd : dir < 0) (O1 : (FloatKind.f64.format.order v v == some .eq) = true) (hn : Op.negFloat .f64 v = nv) (hn2 : Op.negFloat .f64 u' = u) (HC : Hid (∀ w : World, Calls Tryd.prog 49 #[.float .f64 nv, .int .i64 1] w fun e w' => e = .returned (.float .f64 u') ∧ w = w')) :
    Calls Tryd.prog 49 #[.float .f64 v, .int .i64 dir] w fun e w' => e = .returned (.float .f64 u) ∧ w = w' := by
  have O1n : (FloatKind.f64.format.order v v != some .eq) = false := by rw [bne, O1]; rfl
  have hr : ∀ w : World, (Op.unary UnOp.neg (.float .f64 v)).run Tryd.prog w = .ok (.float .f64 nv) w := fun w => by rw [← hn]; rfl
  have hr2 : ∀ w : World, (Op.unary UnOp.neg (.float .f64 u')).run Tryd.prog w = .ok (.float .f64 u) w := fun w => by rw [← hn2]; rfl
  clear hn hn2
  go_enter Tryd.func49, Tryd.ntmps49
  go_wp2_with fail
  (with_reducible refine (HC.out _).mono ?_)
  rintro e w' ⟨rfl, rfl⟩
  go_wp2_with fail
  go_ret
  exact ⟨rfl, rfl⟩
set_option maxHeartbeats 1600000 in
set_option maxRecDepth 100000 in
theorem rstep_nan (v : Nat) (dir : Int) (w : World) (O1 : (FloatKind.f64.format.order v v == some .eq) = false) : Calls Tryd.prog 49 #[.float .f64 v, .int .i64 dir] w fun e w' => e = .returned (.float .f64 v) ∧ w = w' := by
  have O1n : (FloatKind.f64.format.order v v != some .eq) = true := by rw [bne, O1]; rfl
  go_enter Tryd.func49, Tryd.ntmps49
  go_wp2_with fail
  go_ret
  exact ⟨rfl, rfl⟩
theorem rstep_any (s : Bool) {r : Nat} (h : r < 9223372036854775808) (dir : Int) (u : Nat) (hu : stepW (decide (0 ≤ dir)) s r = u) (w : World) : Calls Tryd.prog 49 #[.float .f64 (wordB s r), .int .i64 dir] w fun e w' => e = .returned (.float .f64 u) ∧ w = w' := by
  have hI := inf_val
  by_cases h1 : r ≤ INF
  · by_cases hd : 0 ≤ dir
    · rw [decide_eq_true hd] at hu
      exact rstep_up s (by omega) dir hd u hu w
    · rw [decide_eq_false hd] at hu
      obtain ⟨a, q, e1, e2, hq⟩ := step_flip s h1
      have o1 : (FloatKind.f64.format.order (wordB s r) (wordB s r) == some .eq) = true := by
        show (Ieee.double.order _ _ == _) = true
        rw [ord_rung s s h1 h1, compare_eq_iff.2 rfl]
        rfl
      exact rstep_dn_core _ _ _ u dir w (by omega) o1 (neg_word s (by omega)) (by rw [← hu, e2]; exact neg_word a hq) (Lib.hid fun w => rstep_up (!s) (by omega) 1 (by omega) _ e1 w)
  · have o1 : (FloatKind.f64.format.order (wordB s r) (wordB s r) == some .eq) = false := by
      show (Ieee.double.order _ _ == _) = false
      rw [(ord_nan s (by omega) (by omega) _).1]
      rfl
    have hu' : wordB s r = u := by
      rw [← hu]
      unfold stepW
      rw [if_pos (by omega)]
    rw [← hu']
    exact rstep_nan _ dir w o1
end Fl
end Go.Proofs.YtgiejjpemhceiaaDoor
