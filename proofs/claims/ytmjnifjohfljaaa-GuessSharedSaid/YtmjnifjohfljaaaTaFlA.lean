/-
  Package flo by value: Finite, Step, beyond, within; math.IsNaN, IsInf, Inf.
-/
import Derived.Test.YtmjnifjohfljaaaTaFlY
import Derived.Test.YtmjnifjohfljaaaProg
import Derived.Test.YtmjnifjohfljaaaTaMem
import Derived.WalkLawsBesides
namespace Go.Proofs.Ytmjnifjohfljaaa
set_option linter.unusedSimpArgs false
open Go.RowKit

namespace Fl
theorem xor_top {r : Nat} (h : r < 2 ^ 63) : r ^^^ 2 ^ 63 = 2 ^ 63 + r := by
  apply Nat.eq_of_testBit_eq
  intro i
  rw [Nat.testBit_xor, Nat.testBit_two_pow]
  rcases Nat.lt_trichotomy i 63 with hi | hi | hi
  · rw [Nat.testBit_two_pow_add_gt hi]
    have : decide (63 = i) = false := by simp; omega
    rw [this, Bool.xor_false]
  · subst hi
    rw [Nat.testBit_two_pow_add_eq, Nat.testBit_lt_two_pow h]
    rfl
  · have h1 : r < 2 ^ i := Nat.lt_of_lt_of_le h (Nat.pow_le_pow_right (by omega) (by omega))
    have h2 : 2 ^ 63 + r < 2 ^ i := by
      have : 2 ^ 64 ≤ 2 ^ i := Nat.pow_le_pow_right (by omega) (by omega)
      omega
    rw [Nat.testBit_lt_two_pow h1, Nat.testBit_lt_two_pow h2]
    simp
    omega
theorem neg_word (s : Bool) {r : Nat} (h : r < 9223372036854775808) : Op.negFloat .f64 (wordB s r) = wordB (!s) r := by
  have e : Op.negFloat .f64 = fun b => b ^^^ 2 ^ 63 := by funext b; rfl
  rw [e]
  cases s
  · show r ^^^ 2 ^ 63 = 9223372036854775808 + r
    rw [xor_top h]
  · show (9223372036854775808 + r) ^^^ 2 ^ 63 = r
    rw [show 9223372036854775808 + r = r ^^^ 2 ^ 63 from (xor_top h).symm, Nat.xor_assoc, Nat.xor_self, Nat.xor_zero]
/-- flo.Finite. -/
def finB (f : Nat) : Bool := decide (f / 4503599627370496 % 2048 ≠ 2047)
theorem fin_arith (b : Nat) (hb : b < 18446744073709551616) : (bits BinOp.and IntKind.u64 ((b : Int) / 4503599627370496) 2047 != 2047) = finB b := by
  have e1 : ((b : Int) / 4503599627370496) = ((b / 4503599627370496 : Nat) : Int) := by omega
  have h1 : bits BinOp.and IntKind.u64 ((b / 4503599627370496 : Nat) : Int) ((2047 : Nat) : Int) = (((b / 4503599627370496) &&& 2047 : Nat) : Int) := bits_and_u64_nat _ _ (by omega) (by omega)
  rw [e1, show (2047 : Int) = ((2047 : Nat) : Int) from rfl, h1]
  have h2 : (b / 4503599627370496) &&& 2047 = (b / 4503599627370496) % 2048 := Nat.and_two_pow_sub_one_eq_mod _ 11
  rw [h2]
  unfold finB
  rw [Bool.eq_iff_iff]
  simp
  omega
theorem fin_word (s : Bool) {r : Nat} (h : r < 9223372036854775808) : finB (wordB s r) = decide (r < INF) := by
  unfold finB
  rw [Bool.eq_iff_iff]
  cases s <;> simp [wordB, INF] <;> omega
theorem bits_run (n : Nat) (w : World) : (callFunc 22 #[.float .f64 n]).run Try.prog w = .ok (.value (.int .u64 (n : Int))) w := by kernel_rfl
theorem frombits_run (n : Nat) (w : World) : (callFunc 23 #[.int .u64 (n : Int)]).run Try.prog w = .ok (.value (.float .f64 n)) w := by kernel_rfl

set_option maxHeartbeats 400000 in
theorem finite_any (b : Nat) (hb : b < 18446744073709551616) (w : World) :
    Calls Try.prog 14 #[.float .f64 b] w fun e w' => e = .returned (.bool (finB b)) ∧ w = w' := by
  have h := bits_run
  have hf := Lib.hid (fin_arith b hb)
  clear hb
  go_enter Try.func14, Try.ntmps14
  go_wp2
  go_ret
  exact ⟨by simp [hf.out], rfl⟩

theorem isnan_any (v : Nat) (c : Bool) (w : World) (ho : (FloatKind.f64.format.order v v == some .eq) = c) : Calls Try.prog 64 #[.float .f64 v] w fun e w' => e = .returned (.bool (!c)) ∧ w = w' := by
  go_enter Try.func64, Try.ntmps64
  go_wp2_with fail
  go_ret
  exact ⟨by rw [← ho]; rfl, rfl⟩
theorem infp_any (u : Nat) (w : World) (hu : Hid (9218868437227405312 = u)) : Calls Try.prog 15 #[.int .i64 1] w fun e w' => e = .returned (.float .f64 u) ∧ w = w' := by
  have f2 : ∀ w : World, (callFunc 23 #[.int .u64 9218868437227405312]).run Try.prog w = .ok (.value (.float .f64 u)) w := fun w => by rw [← hu.out]; kernel_rfl
  go_enter Try.func15, Try.ntmps15
  go_wp2_with fail
  go_ret
  exact ⟨rfl, rfl⟩
theorem infn_any (u : Nat) (w : World) (hu : Hid (18442240474082181120 = u)) : Calls Try.prog 15 #[.int .i64 (-1)] w fun e w' => e = .returned (.float .f64 u) ∧ w = w' := by
  have f2 : ∀ w : World, (callFunc 23 #[.int .u64 18442240474082181120]).run Try.prog w = .ok (.value (.float .f64 u)) w := fun w => by rw [← hu.out]; kernel_rfl
  go_enter Try.func15, Try.ntmps15
  go_wp2_with fail
  go_ret
  exact ⟨rfl, rfl⟩
theorem isinf_p (v : Nat) (c : Bool) (w : World) (ho : (FloatKind.f64.format.order v 9218868437227405311 == some .gt) = c) : Calls Try.prog 65 #[.float .f64 v, .int .i64 1] w fun e w' => e = .returned (.bool c) ∧ w = w' := by
  go_enter Try.func65, Try.ntmps65
  go_wp2_with fail
  go_ret
  exact ⟨by simp, rfl⟩
theorem isinf_n (v nv : Nat) (c : Bool) (w : World) (hn : Op.negFloat .f64 v = nv) (ho : (FloatKind.f64.format.order nv 9218868437227405311 == some .gt) = c) : Calls Try.prog 65 #[.float .f64 v, .int .i64 (-1)] w fun e w' => e = .returned (.bool c) ∧ w = w' := by
  have hr : ∀ w : World, (Op.unary UnOp.neg (.float .f64 v)).run Try.prog w = .ok (.float .f64 nv) w := fun w => by rw [← hn]; rfl
  clear hn
  go_enter Try.func65, Try.ntmps65
  go_wp2_with fail
  go_ret
  exact ⟨by simp, rfl⟩
set_option maxHeartbeats 1600000 in
theorem step_core (v nv u : Nat) (dir : Int) (up nn ip in_ : Bool) (c0 : Option Ordering) (w : World) (hd : decide (dir < 0) = !up) (hd2 : decide (0 ≤ dir) = up) (HN : Hid (Op.negFloat .f64 v = nv)) (O1 : Hid ((FloatKind.f64.format.order v v == some .eq) = nn)) (o2 : FloatKind.f64.format.order v 0 = c0) (O3 : Hid ((FloatKind.f64.format.order v 9218868437227405311 == some .gt) = ip)) (O4 : Hid ((FloatKind.f64.format.order nv 9218868437227405311 == some .gt) = in_)) (hv : nn = true → v < 18446744073709551615) (hv0 : c0 = some .eq ∨ nn = false ∨ 0 < v)
    (hu : Hid ((if nn then (if c0 == some .eq then (if up then 1 else 9223372036854775809) else if (ip && up) || (in_ && !up) then v else if (c0 == some .gt) = up then v + 1 else v - 1) else v) = u)) :
    Calls Try.prog 56 #[.float .f64 v, .int .i64 dir] w fun e w' => e = .returned (.float .f64 u) ∧ w = w' := by
  have hb := bits_run
  have hf1 : ∀ w : World, (callFunc 23 #[.int .u64 ((v : Int) + 1)]).run Try.prog w = .ok (.value (.float .f64 (v + 1))) w := fun w => frombits_run (v + 1) w
  cases nn
  · have hu := hu.out
    simp only [Bool.false_eq_true, if_false] at hu
    subst hu
    clear hv0 hv
    go_enter Try.func56, Try.ntmps56
    go_wp2_with (first | (go_at_call 64; (with_reducible refine (isnan_any _ _ _ O1.out).mono ?_); rintro e w' ⟨rfl, rfl⟩) | (go_at_call 65; (with_reducible refine (isinf_p _ _ _ O3.out).mono ?_); rintro e w' ⟨rfl, rfl⟩) | (go_at_call 65; (with_reducible refine (isinf_n _ _ _ _ HN.out O4.out).mono ?_); rintro e w' ⟨rfl, rfl⟩))
    go_ret
    exact ⟨rfl, rfl⟩
  · have hv' : (v : Int) < 18446744073709551615 := by have := hv rfl; omega
    by_cases hz : c0 = some .eq
    · have hz' : (c0 == some .eq) = true := by simpa using hz
      clear hv0 hz
      have hu := hu.out
      simp only [hz', if_true] at hu
      cases up
      · simp only [Bool.false_eq_true, if_false] at hu
        have HU := Lib.hid hu
        simp only [Bool.not_false, decide_eq_true_eq] at hd
        clear hd2 hu hv hv' hf1
        go_enter Try.func56, Try.ntmps56
        go_wp2_with (first | (go_at_call 64; (with_reducible refine (isnan_any _ _ _ O1.out).mono ?_); rintro e w' ⟨rfl, rfl⟩) | (go_at_call 65; (with_reducible refine (isinf_p _ _ _ O3.out).mono ?_); rintro e w' ⟨rfl, rfl⟩) | (go_at_call 65; (with_reducible refine (isinf_n _ _ _ _ HN.out O4.out).mono ?_); rintro e w' ⟨rfl, rfl⟩))
        go_ret
        exact ⟨by rw [← HU.out]; rfl, rfl⟩
      · simp only [if_true] at hu
        have HU := Lib.hid hu
        simp only [decide_eq_true_eq] at hd2
        clear hd hu hv hv' hf1
        go_enter Try.func56, Try.ntmps56
        go_wp2_with (first | (go_at_call 64; (with_reducible refine (isnan_any _ _ _ O1.out).mono ?_); rintro e w' ⟨rfl, rfl⟩) | (go_at_call 65; (with_reducible refine (isinf_p _ _ _ O3.out).mono ?_); rintro e w' ⟨rfl, rfl⟩) | (go_at_call 65; (with_reducible refine (isinf_n _ _ _ _ HN.out O4.out).mono ?_); rintro e w' ⟨rfl, rfl⟩))
        go_ret
        exact ⟨by rw [← HU.out]; rfl, rfl⟩
    · have hz' : (c0 == some .eq) = false := by simpa using hz
      have hv0' : 0 < v := by rcases hv0 with h | h | h; exact absurd h hz; cases h; exact h
      have hf2 : ∀ w : World, (callFunc 23 #[.int .u64 ((v : Int) - 1)]).run Try.prog w = .ok (.value (.float .f64 (v - 1))) w := fun w => by
        have := frombits_run (v - 1) w
        rwa [show ((v - 1 : Nat) : Int) = (v : Int) - 1 by omega] at this
      have hvp : (0 : Int) < (v : Int) := by omega
      clear hv0 hz hv hv0'
      have hu := hu.out
      simp only [hz', Bool.false_eq_true, if_false, if_true] at hu
      obtain ⟨g, hg⟩ : ∃ g, (c0 == some .gt) = g := ⟨_, rfl⟩
      rw [hg] at hu
      cases up <;> cases ip <;> cases in_ <;> cases g <;> simp at hu <;> subst hu <;> simp only [Bool.not_false, Bool.not_true] at hd hd2
      all_goals clear hu
      all_goals
        go_enter Try.func56, Try.ntmps56
        go_wp2_with (first | (go_at_call 64; (with_reducible refine (isnan_any _ _ _ O1.out).mono ?_); rintro e w' ⟨rfl, rfl⟩) | (go_at_call 65; (with_reducible refine (isinf_p _ _ _ O3.out).mono ?_); rintro e w' ⟨rfl, rfl⟩) | (go_at_call 65; (with_reducible refine (isinf_n _ _ _ _ HN.out O4.out).mono ?_); rintro e w' ⟨rfl, rfl⟩))
        go_ret
        exact ⟨rfl, rfl⟩
theorem dec_neg (dir : Int) : decide (dir < 0) = !decide (0 ≤ dir) := by
  by_cases h5 : 0 ≤ dir
  · rw [decide_eq_true h5, decide_eq_false (by omega)]; rfl
  · rw [decide_eq_false h5, decide_eq_true (by omega)]; rfl
theorem step_any (s : Bool) {r : Nat} (h : r < 9223372036854775808) (dir : Int) (u : Nat) (hu : stepW (decide (0 ≤ dir)) s r = u) (w : World) : Calls Try.prog 56 #[.float .f64 (wordB s r), .int .i64 dir] w fun e w' => e = .returned (.float .f64 u) ∧ w = w' := by
  have hd : decide (dir < 0) = !decide (0 ≤ dir) := dec_neg dir
  have hn := neg_word s h
  have hz : (0 : Nat) = wordB false 0 := rfl
  have hm : (9218868437227405311 : Nat) = wordB false (INF - 1) := rfl
  by_cases h1 : r ≤ INF
  · have o1 : (FloatKind.f64.format.order (wordB s r) (wordB s r) == some .eq) = true := by
      show (Ieee.double.order _ _ == _) = true
      rw [ord_rung s s h1 h1, compare_eq_iff.2 rfl]
      rfl
    have o2 : FloatKind.f64.format.order (wordB s r) 0 = some (compare (sg s r) 0) := by
      show Ieee.double.order _ _ = _
      rw [hz, ord_rung s false h1 (Nat.zero_le _)]
      rfl
    have o3 : ∀ t : Bool, (FloatKind.f64.format.order (wordB t r) 9218868437227405311 == some .gt) = decide (t = false ∧ r = INF) := fun t => by
      show (Ieee.double.order _ _ == _) = _
      rw [hm, ord_rung t false h1 (by omega), cmp_beq, Bool.eq_iff_iff, decide_eq_true_eq, decide_eq_true_eq, compare_gt_iff]
      have := inf_val
      cases t <;> simp only [sg, Bool.false_eq_true, if_false, if_true, true_and, false_and, Bool.true_eq_false, iff_false] <;> omega
    refine step_core (wordB s r) (wordB (!s) r) u dir _ true _ _ _ w hd rfl hn o1 o2 (o3 s) (o3 (!s)) (fun _ => ?_) ?_ ?_
    · have := inf_val
      have h3 : r < 9223372036854775807 := by omega
      clear h1 this
      cases s <;> simp only [wordB, Bool.false_eq_true, if_false, if_true] <;> omega
    · by_cases h0 : r = 0
      · left; subst h0; cases s <;> rfl
      · right; right; cases s <;> simp only [wordB, Bool.false_eq_true, if_false, if_true] <;> omega
    · show _ = _
      rw [← hu]
      unfold stepW
      rw [if_pos rfl, if_neg (show ¬ INF < r by omega)]
      by_cases h0 : r = 0
      · subst h0
        rw [if_pos rfl, if_pos (by cases s <;> rfl)]
        cases decide (0 ≤ dir) <;> rfl
      · have hne : ¬ (some (compare (sg s r) 0) == some .eq) = true := by
          rw [cmp_beq, decide_eq_true_eq, compare_eq_iff]
          cases s <;> simp only [sg, Bool.false_eq_true, if_false, if_true] <;> omega
        have hgt : (some (compare (sg s r) 0) == some .gt) = !s := by
          rw [cmp_beq, Bool.eq_iff_iff, decide_eq_true_eq, compare_gt_iff]
          cases s <;> simp only [sg, Bool.false_eq_true, if_false, if_true, Bool.not_true, Bool.not_false, iff_true, iff_false] <;> omega
        rw [if_neg h0, if_neg hne, hgt]
        cases s <;> cases decide (0 ≤ dir) <;> by_cases hi : r = INF <;> simp [hi]
  · have o := fun x => ord_nan s (show INF < r by omega) h x
    refine step_core (wordB s r) (wordB (!s) r) u dir _ false false false none w hd rfl hn ?_ (o 0).1 ?_ ?_ (fun hc => by cases hc) (.inr (.inl rfl)) ?_
    · show (Ieee.double.order _ _ == _) = _
      rw [(o _).1]; rfl
    · show (Ieee.double.order _ _ == _) = _
      rw [(o _).1]; rfl
    · show (Ieee.double.order _ _ == _) = _
      rw [(ord_nan (!s) (show INF < r by omega) h _).1]; rfl
    · show _ = _
      rw [← hu]
      unfold stepW
      rw [if_pos (show INF < r by omega)]
      rfl
end Fl
end Go.Proofs.Ytmjnifjohfljaaa
