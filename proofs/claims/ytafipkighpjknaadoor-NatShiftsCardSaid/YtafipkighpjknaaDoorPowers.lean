/-
  NatPowers: the law's walk.
-/
import Derived.Test.YtafipkighpjknaaDoorGNV
import Derived.Test.YtafipkighpjknaaDoorGPars
import Derived.Test.YtafipkighpjknaaDoorDivides
namespace Go.Proofs.YtafipkighpjknaaDoor
open Go.RowKit

theorem Tab6.only {w w' : World} (h : Tab6 w) (ho : Only [] w w') : Tab6 w' := by
  unfold Tab6 at *
  exact tabis_only h ho

theorem dval_dec (n : Nat) : dval (Lib.decDigits n) = n := by
  induction n using Nat.strongRecOn with
  | ind n ih =>
    by_cases h : n < 10
    · rw [dec_small h]
      simp [dval]
      rw [Nat.mod_eq_of_lt (by omega)]
      omega
    · rw [dec_step h, dval_snoc, ih (n / 10) (by omega)]
      have : (UInt8.ofNat (48 + n % 10)).toNat = 48 + n % 10 := by simp; omega
      rw [this]
      omega

theorem dig_of {d : Nat} (h : d < 10) : isDig (UInt8.ofNat (48 + d)) = true := by
  rw [isDig_iff]
  have : (UInt8.ofNat (48 + d)).toNat = 48 + d := by simp; omega
  omega

theorem dig_dec (n : Nat) : (Lib.decDigits n).all isDig = true := by
  induction n using Nat.strongRecOn with
  | ind n ih =>
    by_cases h : n < 10
    · rw [dec_small h, List.all_cons, dig_of h]
      rfl
    · rw [dec_step h, List.all_append, ih (n / 10) (by omega), List.all_cons, dig_of (Nat.mod_lt _ (by omega))]
      rfl

theorem dec_len_le : ∀ (k n : Nat), n < 10 ^ (k + 1) → (Lib.decDigits n).length ≤ k + 1
  | 0, n, h => by rw [dec_small (by simpa using h)]; simp
  | k + 1, n, h => by
    by_cases hs : n < 10
    · rw [dec_small hs]; simp
    · rw [Nat.pow_succ] at h
      have := dec_len_le k (n / 10) (by omega)
      rw [dec_step hs]
      simp
      omega

theorem dec_len {n k : Nat} (h : Lim n k) (hk : k ≤ 1000) : (Lib.decDigits n).length ≤ 20000 := by
  have h1 : BB ≤ 10 ^ 20 := by rw [BB_val]; decide
  have h2 : n < 10 ^ (20 * k) := by
    rw [Nat.pow_mul]
    exact Nat.lt_of_lt_of_le h (Nat.pow_le_pow_left h1 k)
  have h3 : n < 10 ^ (20 * k + 1) := Nat.lt_of_lt_of_le h2 (Nat.pow_le_pow_right (by omega) (by omega))
  have := dec_len_le _ _ h3
  by_cases h0 : k = 0
  · subst h0; omega
  · have h4 := dec_len_le (20 * k - 1) n (by rw [show 20 * k - 1 + 1 = 20 * k by omega]; exact h2)
    omega

theorem parse_dec {n k : Nat} (h : Lim n k) (hk : k ≤ 1000) : parseN (Lib.decDigits n) = some n := by
  rw [parse_some _ (dec_len h hk) (dig_dec n), dval_dec]
  have := Lib.nDigits_pos n
  rw [Lib.decDigits_length]
  omega

/-- Parse of a number's digits. -/
theorem parse_dec_v {w : World} (n k : Nat) (h : Hid (Lim n k)) (hk : k ≤ 1000) : Calls Tryd.prog 26 #[.string ⟨(Lib.decDigits n).toArray⟩] w fun e w' => ∃ A k c, e = .returned (.tuple #[.slice A k c, .bool true]) ∧ Res w w' (.slice A k c) n ∧ NV w' (.slice A k c) n ∧ Only [] w w' := by
  have hl := dec_len h.out hk
  refine (parse_any ⟨(Lib.decDigits n).toArray⟩ w (by rw [size_mk]; unfold maxLen; omega)).mono ?_
  rintro e w' (⟨h1, _⟩ | ⟨m, A, k, c, _, rfl, h1, rfl, h2, h3, h4⟩)
  · rw [show (⟨(Lib.decDigits n).toArray⟩ : ByteArray).data.toList = Lib.decDigits n by simp, parse_dec h.out hk] at h1
    cases h1
  · rw [show (⟨(Lib.decDigits n).toArray⟩ : ByteArray).data.toList = Lib.decDigits n by simp, parse_dec h.out hk] at h1
    injection h1 with h1
    subst h1
    exact ⟨A, k, c, rfl, h2, h3, h4⟩

theorem bits_pow (N : Nat) : bitsN (2 ^ N) = N + 1 := by
  unfold bitsN
  rw [if_neg (by have : 0 < 2 ^ N := Nat.pow_pos (by omega); omega), Nat.log2_two_pow]

theorem bits_pow1 (N : Nat) : bitsN (2 ^ N - 1) = N := by
  unfold bitsN
  have hp : 0 < 2 ^ N := Nat.pow_pos (by omega)
  cases N with
  | zero => rfl
  | succ N =>
    have hp2 : 0 < 2 ^ N := Nat.pow_pos (by omega)
    have e : 2 ^ (N + 1) = 2 * 2 ^ N := by rw [Nat.pow_succ, Nat.mul_comm]
    have h : Nat.log2 (2 ^ (N + 1) - 1) = N := (Nat.log2_eq_iff (by omega)).2 ⟨by omega, by omega⟩
    rw [if_neg (by omega), h]

theorem lim_pow (N : Nat) (k : Nat) (h : N < 64 * k) : Lim (2 ^ N) k := by
  unfold Lim
  rw [BB_pow, ← Nat.pow_mul]
  exact Nat.pow_lt_pow_right (by omega) h

end Go.Proofs.YtafipkighpjknaaDoor
