/-
  Floats, plain: a word is a sign and a rung; what a rung is worth; the nearest word is one of the two rungs beside a number.
-/
import Derived.Test.YtmjnifjohfljaaaTaDyX
namespace Go.Proofs.Ytmjnifjohfljaaa
set_option linter.unusedSimpArgs false

namespace Fl
/-- How many units of the least float64 a rung is worth. -/
def NR (r : Nat) : Nat := if r < 4503599627370496 then r else (4503599627370496 + r % 4503599627370496) * 2 ^ (r / 4503599627370496 - 1)
/-- Infinity's rung. -/
abbrev INF : Nat := 9218868437227405312
theorem NR_base (E k : Nat) (h1 : 4503599627370496 ≤ k) (h2 : k ≤ 9007199254740992) : NR (E * 4503599627370496 + k) = k * 2 ^ E := by
  unfold NR
  rw [if_neg (by omega)]
  by_cases h : k = 9007199254740992
  · subst h
    rw [show (E * 4503599627370496 + 9007199254740992) % 4503599627370496 = 0 by omega, show (E * 4503599627370496 + 9007199254740992) / 4503599627370496 - 1 = E + 1 by omega, Nat.pow_succ]
    omega
  · rw [show (E * 4503599627370496 + k) % 4503599627370496 = k - 4503599627370496 by omega, show (E * 4503599627370496 + k) / 4503599627370496 - 1 = E by omega, show 4503599627370496 + (k - 4503599627370496) = k by omega]
theorem NR_low {k : Nat} (h : k ≤ 9007199254740992) : NR k = k := by
  by_cases h0 : k < 4503599627370496
  · unfold NR; rw [if_pos h0]
  · have := NR_base 0 k (by omega) h
    simpa using this
theorem NR_split (r : Nat) (h : 4503599627370496 ≤ r) : ∃ E k, r = E * 4503599627370496 + k ∧ 4503599627370496 ≤ k ∧ k < 9007199254740992 :=
  ⟨r / 4503599627370496 - 1, 4503599627370496 + r % 4503599627370496, by omega, by omega, by omega⟩
theorem NR_succ (r : Nat) : NR r < NR (r + 1) := by
  by_cases h : r < 4503599627370496
  · rw [NR_low (by omega), NR_low (by omega)]; omega
  · obtain ⟨E, k, rfl, h1, h2⟩ := NR_split r (by omega)
    rw [NR_base E k h1 (by omega), show E * 4503599627370496 + k + 1 = E * 4503599627370496 + (k + 1) by omega, NR_base E (k + 1) (by omega) (by omega)]
    have : 0 < 2 ^ E := Nat.pow_pos (by omega)
    rw [Nat.succ_mul]
    omega
theorem NR_mono {r s : Nat} (h : r ≤ s) : NR r ≤ NR s := by
  induction s with
  | zero => obtain rfl : r = 0 := by omega
            exact Nat.le_refl _
  | succ s ih =>
    rcases Nat.lt_or_ge r (s + 1) with h1 | h1
    · exact Nat.le_trans (ih (by omega)) (Nat.le_of_lt (NR_succ s))
    · obtain rfl : r = s + 1 := by omega
      exact Nat.le_refl _
theorem NR_lt_iff {r s : Nat} : NR r < NR s ↔ r < s := by
  constructor
  · intro h
    apply Decidable.byContradiction
    intro hc
    have := NR_mono (show s ≤ r by omega)
    omega
  · intro h
    exact Nat.lt_of_lt_of_le (NR_succ r) (NR_mono h)
theorem NR_inj {r s : Nat} (h : NR r = NR s) : r = s := by
  have h1 : ¬ r < s := fun hc => by have := NR_lt_iff.2 hc; omega
  have h2 : ¬ s < r := fun hc => by have := NR_lt_iff.2 hc; omega
  omega
theorem NR_zero : NR 0 = 0 := rfl
/-- A word. -/
def wordB (neg : Bool) (r : Nat) : Nat := if neg then 9223372036854775808 + r else r
theorem word_eq (neg : Bool) (r : Nat) : Ieee.double.word neg r = wordB neg r := by
  unfold Ieee.Format.word wordB
  rw [show Ieee.double.signWeight = 9223372036854775808 by decide]
theorem word_split {w : Nat} (h : w < 18446744073709551616) : ∃ neg r, w = wordB neg r ∧ r < 9223372036854775808 := by
  by_cases h0 : w < 9223372036854775808
  · exact ⟨false, w, rfl, h0⟩
  · exact ⟨true, w - 9223372036854775808, by unfold wordB; simp; omega, by omega⟩
theorem word_parts (neg : Bool) {r : Nat} (h : r < 9223372036854775808) : (wordB neg r / 9223372036854775808 % 2 == 1) = neg ∧ wordB neg r % 9223372036854775808 = r := by
  cases neg
  · simp only [wordB, Bool.false_eq_true, if_false]
    rw [Nat.div_eq_of_lt h, Nat.mod_eq_of_lt h]
    exact ⟨rfl, rfl⟩
  · simp only [wordB, if_true]
    rw [show (9223372036854775808 + r) / 9223372036854775808 = 1 by omega, show (9223372036854775808 + r) % 9223372036854775808 = r by omega]
    exact ⟨rfl, rfl⟩
/-- What a finite word stands for. -/
theorem read_fin (neg : Bool) {r : Nat} (h : r < INF) : ∃ mag k : Nat, Ieee.double.read (wordB neg r) = .number neg mag (-1074 + (k : Int)) ∧ mag * 2 ^ k = NR r := by
  obtain ⟨h1, h2⟩ := word_parts neg (show r < 9223372036854775808 by unfold INF at h; omega)
  unfold Ieee.Format.read
  simp only [show Ieee.double.signWeight = 9223372036854775808 by decide, show Ieee.double.binade = 4503599627370496 by decide, show Ieee.double.infRung = 9218868437227405312 by decide, show Ieee.double.leastPlace = -1074 by decide, h1, h2]
  by_cases h0 : r < 4503599627370496
  · rw [if_pos h0]
    exact ⟨r, 0, by simp, by rw [NR_low (by omega)]; simp⟩
  · rw [if_neg h0, if_pos h]
    exact ⟨_, _, rfl, by unfold NR; rw [if_neg h0]⟩
theorem read_inf (neg : Bool) : Ieee.double.read (wordB neg INF) = .infinity neg := by cases neg <;> decide
theorem read_nan (neg : Bool) {r : Nat} (h : INF < r) (h2 : r < 9223372036854775808) : Ieee.double.read (wordB neg r) = .nan neg (r - INF) := by
  obtain ⟨k1, k2⟩ := word_parts neg h2
  unfold Ieee.Format.read
  simp only [show Ieee.double.signWeight = 9223372036854775808 by decide, show Ieee.double.binade = 4503599627370496 by decide, show Ieee.double.infRung = 9218868437227405312 by decide, k1, k2]
  unfold INF at h ⊢
  rw [if_neg (by omega), if_neg (by omega), if_neg (by omega)]

/-- The nearest word is one of the two beside the number. -/
theorem nearest_rung (neg : Bool) {mag : Nat} (place : Int) (hm : mag ≠ 0) : ∃ f rr, Ieee.double.nearest neg mag place = wordB neg (min rr INF) ∧ NR f * 2 ^ (-1074 - place).toNat ≤ mag * 2 ^ (place + 1074).toNat ∧ mag * 2 ^ (place + 1074).toNat < NR (f + 1) * 2 ^ (-1074 - place).toNat ∧ (rr = f ∨ (rr = f + 1 ∧ NR f * 2 ^ (-1074 - place).toNat < mag * 2 ^ (place + 1074).toNat)) := by
  have hlog := Nat.log2_self_le hm
  have hlog2 := Nat.lt_log2_self (n := mag)
  obtain ⟨last, hlast⟩ : ∃ last, max (place + (Nat.log2 mag : Int) - 52) (-1074) = last := ⟨_, rfl⟩
  obtain ⟨n, hn⟩ : ∃ n, mag * 2 ^ (place - last).toNat = n := ⟨_, rfl⟩
  obtain ⟨drop, hdrop⟩ : ∃ d, (last - place).toNat = d := ⟨_, rfl⟩
  have hn0 : n ≠ 0 := by rw [← hn]; exact Nat.mul_ne_zero hm (Nat.pos_iff_ne_zero.1 (Nat.pow_pos (by omega)))
  -- the cut
  have hcut : ∃ more : Bool, Ieee.Toward.even.cut neg n drop = n / 2 ^ drop + more.toNat ∧ (more = true → n % 2 ^ drop ≠ 0) := by
    unfold Ieee.Toward.cut
    simp only [Nat.one_shiftLeft]
    have hg : n / 2 ^ min drop (Nat.log2 n + 2) = n / 2 ^ drop ∧ n % 2 ^ min drop (Nat.log2 n + 2) = n % 2 ^ drop := by
      by_cases h : drop ≤ Nat.log2 n + 2
      · rw [Nat.min_eq_left h]; exact ⟨rfl, rfl⟩
      · have h1 : n < 2 ^ (Nat.log2 n + 2) := Nat.lt_of_lt_of_le (Nat.lt_log2_self (n := n)) (two_mono (by omega))
        have h2 : n < 2 ^ drop := Nat.lt_of_lt_of_le h1 (two_mono (by omega))
        rw [Nat.min_eq_right (by omega), Nat.div_eq_of_lt h1, Nat.div_eq_of_lt h2, Nat.mod_eq_of_lt h1, Nat.mod_eq_of_lt h2]
        exact ⟨rfl, rfl⟩
    rw [hg.1]
    refine ⟨_, rfl, fun h => ?_⟩
    have hp : 0 < 2 ^ min drop (Nat.log2 n + 2) := Nat.pow_pos (by omega)
    rw [← hg.2]
    generalize n % 2 ^ min drop (Nat.log2 n + 2) = rest at *
    generalize 2 ^ min drop (Nat.log2 n + 2) = gap at *
    rintro rfl
    simp at h
    omega
  obtain ⟨more, hc1, hc2⟩ := hcut
  obtain ⟨low, hlow⟩ : ∃ low, n / 2 ^ drop = low := ⟨_, rfl⟩
  have hp : 0 < 2 ^ drop := Nat.pow_pos (by omega)
  have hd := Nat.div_add_mod n (2 ^ drop)
  have hr := Nat.mod_lt n hp
  rw [hlow] at hc1 hd
  generalize hrest : n % 2 ^ drop = rest at *
  obtain ⟨L, hL⟩ : ∃ L : Nat, last + 1074 = (L : Int) := ⟨(last + 1074).toNat, by omega⟩
  -- how great the part is that is kept
  have hl2 : low < 9007199254740992 := by
    rw [← hlow, Nat.div_lt_iff_lt_mul hp, ← hn, show (9007199254740992 : Nat) = 2 ^ 53 by decide, ← Nat.pow_add]
    have h1 : mag * 2 ^ (place - last).toNat < 2 ^ (Nat.log2 mag + 1) * 2 ^ (place - last).toNat := Nat.mul_lt_mul_of_pos_right hlog2 (Nat.pow_pos (by omega))
    rw [← Nat.pow_add] at h1
    exact Nat.lt_of_lt_of_le h1 (two_mono (by omega))
  have hl1 : L ≠ 0 → 4503599627370496 ≤ low := by
    intro h
    rw [← hlow, Nat.le_div_iff_mul_le hp, ← hn, show (4503599627370496 : Nat) = 2 ^ 52 by decide, ← Nat.pow_add]
    have h1 : 2 ^ Nat.log2 mag * 2 ^ (place - last).toNat ≤ mag * 2 ^ (place - last).toNat := Nat.mul_le_mul_right _ hlog
    rw [← Nat.pow_add] at h1
    exact Nat.le_trans (two_mono (by omega)) h1
  have hN : ∀ k, k ≤ low + 1 → low ≤ k → NR (L * 4503599627370496 + k) = k * 2 ^ L := by
    intro k h1 h2
    by_cases h0 : L = 0
    · subst h0
      rw [Nat.zero_mul, Nat.zero_add, NR_low (by omega)]
      simp
    · exact NR_base L k (by have := hl1 h0; omega) (by omega)
  have hsum : L + (-1074 - place).toNat + (place - last).toNat = (place + 1074).toNat + drop := by omega
  have hprod : mag * 2 ^ (place + 1074).toNat * 2 ^ drop = n * 2 ^ (L + (-1074 - place).toNat) := by
    rw [← hn, Nat.mul_assoc, Nat.mul_assoc, ← Nat.pow_add, ← Nat.pow_add]
    congr 2
    omega
  have hX : ∀ k : Nat, k * 2 ^ L * 2 ^ (-1074 - place).toNat * 2 ^ drop = k * 2 ^ drop * 2 ^ (L + (-1074 - place).toNat) := by
    intro k
    rw [Nat.pow_add]
    ac_rfl
  have hq : 0 < 2 ^ (L + (-1074 - place).toNat) := Nat.pow_pos (by omega)
  have key : ∀ k : Nat, (k * 2 ^ drop ≤ n → k * 2 ^ L * 2 ^ (-1074 - place).toNat ≤ mag * 2 ^ (place + 1074).toNat) ∧ (n < k * 2 ^ drop → mag * 2 ^ (place + 1074).toNat < k * 2 ^ L * 2 ^ (-1074 - place).toNat) ∧ (k * 2 ^ drop < n → k * 2 ^ L * 2 ^ (-1074 - place).toNat < mag * 2 ^ (place + 1074).toNat) := by
    intro k
    refine ⟨fun h => ?_, fun h => ?_, fun h => ?_⟩
    · apply Nat.le_of_mul_le_mul_right _ hp
      rw [hX, hprod]
      exact Nat.mul_le_mul_right _ h
    · apply Nat.lt_of_mul_lt_mul_right (a := 2 ^ drop)
      rw [hX, hprod]
      exact Nat.mul_lt_mul_of_pos_right h hq
    · apply Nat.lt_of_mul_lt_mul_right (a := 2 ^ drop)
      rw [hX, hprod]
      exact Nat.mul_lt_mul_of_pos_right h hq
  rw [Nat.mul_comm] at hd
  obtain ⟨f, hf⟩ : ∃ f, L * 4503599627370496 + low = f := ⟨_, rfl⟩
  have hNf : NR f = low * 2 ^ L := by rw [← hf]; exact hN low (by omega) (Nat.le_refl _)
  have hNf1 : NR (f + 1) = (low + 1) * 2 ^ L := by
    have h := hN (low + 1) (Nat.le_refl _) (by omega)
    rw [← Nat.add_assoc, hf] at h
    exact h
  have hmin : (last - -1074).toNat * 4503599627370496 + (low + more.toNat) = f + more.toNat := by rw [show (last - -1074).toNat = L by omega, ← Nat.add_assoc, hf]
  clear hN hl1 hl2 hX
  refine ⟨f, f + more.toNat, ?_, ?_, ?_, ?_⟩
  · unfold Ieee.Format.nearest
    rw [if_neg hm, word_eq]
    simp only [show ((Ieee.double.fractionBits : Nat) : Int) = 52 by decide, show Ieee.double.leastPlace = -1074 by decide, show Ieee.double.binade = 4503599627370496 by decide, show Ieee.double.infRung = 9218868437227405312 by decide, hlast, Nat.shiftLeft_eq, hn, hdrop, hc1, hmin]
  · rw [hNf]
    exact (key low).1 (by omega)
  · rw [hNf1]
    exact (key (low + 1)).2.1 (by rw [Nat.succ_mul]; omega)
  · cases more
    · left; rfl
    · right
      refine ⟨rfl, ?_⟩
      rw [hNf]
      have := hc2 rfl
      exact (key low).2.2 (by omega)
end Fl
end Go.Proofs.Ytmjnifjohfljaaa
