/-
  Floats, plain: the dyad of a word, the order of words, and what flo.Float tells: the word beside a dyad.
-/
import Derived.Test.YtmjnifjohfljaaaTaFlV
import Derived.Test.YtmjnifjohfljaaaTaDyX
namespace Go.Proofs.Ytmjnifjohfljaaa
set_option linter.unusedSimpArgs false

namespace Fl
theorem sg_mulN (s : Bool) (n k : Nat) : sg s n * (k : Int) = sg s (n * k) := by cases s <;> simp [sg, Int.neg_mul]
/-- The order of two words. -/
theorem compare_int (x y : Int) : compare x y = if x < y then .lt else if x = y then .eq else .gt := rfl
theorem compare_scale {x y p : Int} (hp : 0 < p) : compare (x * p) (y * p) = compare x y := by
  have h1 : x * p < y * p ↔ x < y := ⟨fun h => Int.lt_of_mul_lt_mul_right h (by omega), fun h => Int.mul_lt_mul_of_pos_right h hp⟩
  have h2 : x * p = y * p ↔ x = y := ⟨fun h => Int.eq_of_mul_eq_mul_right (by omega) h, fun h => by rw [h]⟩
  rw [compare_int, compare_int]
  simp only [h1, h2]
theorem signed_sg (neg : Bool) (m n : Nat) : Ieee.signed neg m n = sg neg (m * 2 ^ n) := by
  cases neg <;> simp [Ieee.signed, sg, Nat.shiftLeft_eq]
theorem compare_lt_iff {x y : Int} : compare x y = .lt ↔ x < y := by rw [compare_int]; split <;> simp_all <;> split <;> simp_all
theorem compare_eq_iff {x y : Int} : compare x y = .eq ↔ x = y := by
  rw [compare_int]
  by_cases h1 : x < y
  · rw [if_pos h1]; constructor <;> intro h <;> first | (cases h; done) | omega
  · rw [if_neg h1]
    by_cases h2 : x = y
    · rw [if_pos h2]; exact ⟨fun _ => h2, fun _ => rfl⟩
    · rw [if_neg h2]; exact ⟨fun h => (by cases h), fun h => absurd h h2⟩
theorem compare_gt_iff {x y : Int} : compare x y = .gt ↔ y < x := by
  rw [compare_int]
  by_cases h1 : x < y
  · rw [if_pos h1]; constructor <;> intro h <;> first | (cases h; done) | omega
  · rw [if_neg h1]
    by_cases h2 : x = y
    · rw [if_pos h2]; constructor <;> intro h <;> first | (cases h; done) | omega
    · rw [if_neg h2]; exact ⟨fun h => (by omega), fun h => rfl⟩
theorem sg_cmp_inf (a b : Bool) {r s : Nat} (h : r < s) : compare (sg a s) (sg b r) = (if a then .lt else .gt : Ordering) ∧ compare (sg a r) (sg b s) = (if b then .gt else .lt : Ordering) := by
  cases a <;> cases b <;> simp only [sg, Bool.false_eq_true, if_false, if_true] <;> refine ⟨?_, ?_⟩ <;> first | exact compare_lt_iff.2 (by omega) | exact compare_gt_iff.2 (by omega)
theorem ord_word (a b : Bool) {r s : Nat} (hr : r ≤ INF) (hs : s ≤ INF) : Ieee.double.order (wordB a r) (wordB b s) = some (compare (sg a (NR r)) (sg b (NR s))) := by
  unfold Ieee.Format.order
  rcases Nat.lt_or_ge r INF with h1 | h1
  · obtain ⟨m, k, e1, e2⟩ := read_fin a h1
    rcases Nat.lt_or_ge s INF with h2 | h2
    · obtain ⟨n, l, e3, e4⟩ := read_fin b h2
      rw [e1, e3]
      unfold Ieee.Datum.order
      simp only [signed_sg]
      obtain ⟨u, hu⟩ : ∃ u : Nat, min (-1074 + (k : Int)) (-1074 + (l : Int)) = -1074 + (u : Int) := ⟨min k l, by omega⟩
      rw [hu, ← compare_scale (p := ((2 ^ u : Nat) : Int)) (by have : 0 < 2 ^ u := Nat.pow_pos (by omega); omega), sg_mulN, sg_mulN, Nat.mul_assoc, Nat.mul_assoc, ← Nat.pow_add, ← Nat.pow_add, show (-1074 + (k : Int) - (-1074 + (u : Int))).toNat + u = k by omega, show (-1074 + (l : Int) - (-1074 + (u : Int))).toNat + u = l by omega, e2, e4]
    · obtain rfl : s = INF := by omega
      rw [e1, read_inf]
      unfold Ieee.Datum.order
      simp only
      rw [(sg_cmp_inf a b (NR_lt_iff.2 h1)).2]
  · obtain rfl : r = INF := by omega
    rcases Nat.lt_or_ge s INF with h2 | h2
    · obtain ⟨n, l, e3, e4⟩ := read_fin b h2
      rw [e3, read_inf]
      unfold Ieee.Datum.order
      simp only
      rw [(sg_cmp_inf a b (NR_lt_iff.2 h2)).1]
    · obtain rfl : s = INF := by omega
      rw [read_inf, read_inf]
      unfold Ieee.Datum.order
      have h0 : 0 < NR INF := Nat.lt_of_le_of_lt (Nat.zero_le _) (NR_lt_iff.2 (show 0 < INF by decide))
      generalize NR INF = n at *
      cases a <;> cases b <;> simp only [sg, Bool.false_eq_true, if_false, if_true]
      · rw [compare_eq_iff.2 rfl]; rfl
      · rw [compare_gt_iff.2 (by omega)]; rfl
      · rw [compare_lt_iff.2 (by omega)]; rfl
      · rw [compare_eq_iff.2 rfl]; rfl
/-- Signed rungs stand as what they are worth. -/
theorem sg_rung (a b : Bool) (r s : Nat) : compare (sg a (NR r)) (sg b (NR s)) = compare (sg a r) (sg b s) := by
  have h1 : NR r < NR s ↔ r < s := NR_lt_iff
  have h2 : NR s < NR r ↔ s < r := NR_lt_iff
  have h3 : NR r = NR s ↔ r = s := ⟨NR_inj, fun h => by rw [h]⟩
  have h4 : 0 < NR r ↔ 0 < r := by have := NR_lt_iff (r := 0) (s := r); rw [NR_zero] at this; exact this
  have h5 : 0 < NR s ↔ 0 < s := by have := NR_lt_iff (r := 0) (s := s); rw [NR_zero] at this; exact this
  rw [compare_int, compare_int]
  cases a <;> cases b <;> simp only [sg, if_true, if_false, Bool.false_eq_true]
  all_goals
    congr 1
    · apply propext; constructor <;> intro h <;> omega
    · congr 1
      apply propext; constructor <;> intro h <;> omega
theorem ord_rung (a b : Bool) {r s : Nat} (hr : r ≤ INF) (hs : s ≤ INF) : Ieee.double.order (wordB a r) (wordB b s) = some (compare (sg a r) (sg b s)) := by rw [ord_word a b hr hs, sg_rung]
theorem ord_nan (a : Bool) {r : Nat} (h : INF < r) (h2 : r < 9223372036854775808) (w : Nat) : Ieee.double.order (wordB a r) w = none ∧ Ieee.double.order w (wordB a r) = none := by
  unfold Ieee.Format.order
  rw [read_nan a h h2]
  refine ⟨rfl, ?_⟩
  cases Ieee.double.read w <;> rfl

end Fl
end Go.Proofs.Ytmjnifjohfljaaa
