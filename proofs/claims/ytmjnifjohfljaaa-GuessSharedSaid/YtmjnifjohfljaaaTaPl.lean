/-
  Plain words on bits, for seats whose programs have no limbs.
-/
import Derived.Test.YtmjnifjohfljaaaTaWhV
import Derived.Test.YtmjnifjohfljaaaTaVal
namespace Go.Proofs.Ytmjnifjohfljaaa
set_option linter.unusedSimpArgs false
set_option linter.unusedVariables false

/-- How many bits. -/
def bitsN (n : Nat) : Nat := if n = 0 then 0 else Nat.log2 n + 1
/-- The zero bits at the end. -/
def lowN (n : Nat) : Nat := if _h : n = 0 then 0 else if n % 2 = 1 then 0 else 1 + lowN (n / 2)
termination_by n
decreasing_by omega
theorem lowN_odd {n : Nat} (h : n % 2 = 1) : lowN n = 0 := by rw [lowN, dif_neg (by omega), if_pos h]
theorem lowN_even {n : Nat} (h0 : n ≠ 0) (h : n % 2 = 0) : lowN n = 1 + lowN (n / 2) := by rw [lowN, dif_neg h0, if_neg (by omega)]
theorem lowN_spec {n : Nat} (h : n ≠ 0) : ∃ m, n = 2 ^ lowN n * (2 * m + 1) := by
  induction n using Nat.strongRecOn with
  | ind n ih =>
    by_cases h1 : n % 2 = 1
    · exact ⟨n / 2, by rw [lowN_odd h1]; omega⟩
    · obtain ⟨m, hm⟩ := ih (n / 2) (by omega) (by omega)
      refine ⟨m, ?_⟩
      rw [lowN_even h (by omega), Nat.pow_add, Nat.pow_one, Nat.mul_assoc, ← hm]
      omega
/-- So many limbs at most. -/
def MX : Nat := 1000000
attribute [irreducible] MX
/-- Not too great. -/
def Few (n : Nat) : Prop := n < BB ^ MX
theorem Few.le {n m : Nat} (h : Few n) (hm : m ≤ n) : Few m := Nat.lt_of_le_of_lt hm h
end Go.Proofs.Ytmjnifjohfljaaa
