/-
  Decimal digits, in parts of 19: the plain law (no program in sight).
-/
import Derived.Test.YtphjcphcgnjogaaDoorVal
import Derived.Lib.ItoaNum
import Derived.Lib.Repeat
import Derived.Lib.ItoaLen
namespace Go.Proofs.YtphjcphcgnjogaaDoor
open Go.Lib

/-- The unit of a part. -/
def CH : Nat := 10000000000000000000
theorem CH_val : CH = 10000000000000000000 := rfl
theorem CH_pow : CH = 10 ^ 19 := by decide
theorem CH_pos : 0 < CH := by decide
theorem CH_two : 2 ≤ CH := by decide
attribute [irreducible] CH

/-- The digits of m, k of them. -/
def padL : Nat → Nat → List UInt8
  | 0, _ => []
  | k + 1, m => padL k (m / 10) ++ [UInt8.ofNat (48 + m % 10)]
theorem padL_length : ∀ k m : Nat, (padL k m).length = k
  | 0, _ => rfl
  | k + 1, m => by simp [padL, padL_length k]
theorem padL_zero : ∀ k : Nat, padL k 0 = List.replicate k 48
  | 0 => rfl
  | k + 1 => by rw [padL, show 0 / 10 = 0 from rfl, padL_zero k, List.replicate_succ']; rfl
theorem dec_step {u : Nat} (h : ¬ u < 10) : decDigits u = decDigits (u / 10) ++ [UInt8.ofNat (48 + u % 10)] := by rw [decDigits, dif_neg h]
theorem dec_small {u : Nat} (h : u < 10) : decDigits u = [UInt8.ofNat (48 + u)] := by rw [decDigits, dif_pos h]
/-- A number's digits, with zeros ahead. -/
theorem pad_eq : ∀ (k m : Nat), (decDigits m).length ≤ k → padL k m = List.replicate (k - (decDigits m).length) 48 ++ decDigits m
  | 0, m, h => by
    have := nDigits_pos m
    rw [decDigits_length] at h
    omega
  | k + 1, m, h => by
    by_cases hm : m < 10
    · rw [dec_small hm, padL, show m / 10 = 0 by omega, padL_zero, Nat.mod_eq_of_lt hm]
      simp
    · rw [dec_step hm] at h ⊢
      simp only [List.length_append, List.length_cons, List.length_nil] at h ⊢
      rw [padL, pad_eq k (m / 10) (by omega), List.append_assoc]
      congr 2
      omega
theorem dec_pad : ∀ (k q r : Nat), q ≠ 0 → r < 10 ^ k → decDigits (r + 10 ^ k * q) = decDigits q ++ padL k r
  | 0, q, r, _, h => by
    have : r = 0 := by simpa using h
    simp [this, padL]
  | k + 1, q, r, hq, h => by
    rw [Nat.pow_succ] at h
    have e : r + 10 ^ (k + 1) * q = 10 * (r / 10 + 10 ^ k * q) + r % 10 := by
      have := Nat.div_add_mod r 10
      rw [Nat.pow_succ, Nat.mul_add, Nat.mul_comm (10 ^ k) 10, Nat.mul_assoc]
      omega
    have hp : 0 < 10 ^ k := Nat.pow_pos (by omega)
    have h1 : 1 ≤ 10 ^ k * q := Nat.mul_pos hp (by omega)
    generalize hz : r / 10 + 10 ^ k * q = z at e
    have hb : ¬ 10 * z + r % 10 < 10 := by omega
    rw [e, dec_step hb, show (10 * z + r % 10) / 10 = z by omega, show (10 * z + r % 10) % 10 = r % 10 by omega, ← hz, dec_pad k q (r / 10) hq (by omega), padL, List.append_assoc]
theorem dec_chunk {n : Nat} (h : n / CH ≠ 0) : decDigits n = decDigits (n / CH) ++ padL 19 (n % CH) := by
  have h1 := Nat.mod_add_div n CH
  have h2 := Nat.mod_lt n CH_pos
  rw [CH_pow] at h h1 h2 ⊢
  have := dec_pad 19 (n / 10 ^ 19) (n % 10 ^ 19) h h2
  rw [h1] at this
  exact this

/-- The parts, the lowest one first. -/
def chunks (n : Nat) : List Nat := if _h : n = 0 then [] else n % CH :: chunks (n / CH)
termination_by n
decreasing_by exact Nat.div_lt_self (by omega) CH_two
theorem chunks_zero : chunks 0 = [] := by rw [chunks]; rfl
theorem chunks_pos {n : Nat} (h : n ≠ 0) : chunks n = n % CH :: chunks (n / CH) := by rw [chunks, dif_neg h]
/-- How far the parts go. -/
structure Cut (n : Nat) (ps : List Nat) (q : Nat) : Prop where
  all : chunks n = ps ++ chunks q
  q_eq : q = n / CH ^ ps.length
  lt : ∀ x ∈ ps, x < CH
  nz : n ≠ 0
theorem Cut.start {n : Nat} (h : n ≠ 0) : Cut n [] n := ⟨rfl, by simp, by simp, h⟩
theorem Cut.step {n q : Nat} {ps : List Nat} (h : Cut n ps q) (hq : q ≠ 0) : Cut n (ps ++ [q % CH]) (q / CH) := by
  refine ⟨by rw [h.all, chunks_pos hq, List.append_assoc]; rfl, ?_, ?_, h.nz⟩
  · rw [h.q_eq, List.length_append, List.length_cons, List.length_nil, Nat.pow_add, Nat.pow_one, Nat.div_div_eq_div_mul]
  · intro x hx
    rcases List.mem_append.1 hx with h1 | h1
    · exact h.lt x h1
    · rw [List.mem_singleton.1 h1]
      exact Nat.mod_lt _ CH_pos
theorem chunks_get : ∀ (k n : Nat), (chunks n)[k]?.getD 0 = n / CH ^ k % CH
  | 0, n => by
    by_cases h : n = 0
    · simp [h, chunks_zero]
    · simp [chunks_pos h]
  | k + 1, n => by
    by_cases h : n = 0
    · simp [h, chunks_zero]
    · rw [chunks_pos h, List.getElem?_cons_succ, chunks_get k, Nat.div_div_eq_div_mul, Nat.pow_succ, Nat.mul_comm CH]
theorem chunks_len_le : ∀ (k n : Nat), n < CH ^ k → (chunks n).length ≤ k
  | 0, n, h => by
    have : n = 0 := by simpa using h
    simp [this, chunks_zero]
  | k + 1, n, h => by
    by_cases h0 : n = 0
    · simp [h0, chunks_zero]
    · rw [chunks_pos h0, List.length_cons]
      have := chunks_len_le k (n / CH) (by rw [Nat.div_lt_iff_lt_mul CH_pos]; rwa [Nat.pow_succ] at h)
      omega
theorem chunks_top : ∀ (n k : Nat), (chunks n).length = k + 1 → n / CH ^ k ≠ 0 ∧ n / CH ^ k < CH
  | n, 0, h => by
    have h0 : n ≠ 0 := by rintro rfl; rw [chunks_zero] at h; simp at h
    rw [chunks_pos h0] at h
    have h1 : n / CH = 0 := by
      apply Decidable.byContradiction
      intro h2
      rw [chunks_pos h2] at h
      simp at h
    have := Nat.div_add_mod n CH
    have := Nat.mod_lt n CH_pos
    rw [h1] at *
    simp
    omega
  | n, k + 1, h => by
    have h0 : n ≠ 0 := by rintro rfl; rw [chunks_zero] at h; simp at h
    rw [chunks_pos h0, List.length_cons] at h
    have := chunks_top (n / CH) k (by omega)
    rw [Nat.div_div_eq_div_mul, Nat.mul_comm, ← Nat.pow_succ] at this
    exact this
/-- What has been written when k parts are left. -/
def wrote (n k : Nat) : List UInt8 := if k = (chunks n).length then [] else decDigits (n / CH ^ k)
theorem wrote_end {n : Nat} (h : n ≠ 0) : wrote n 0 = decDigits n := by
  unfold wrote
  rw [if_neg (by rw [chunks_pos h]; simp)]
  simp
theorem wrote_top {n k : Nat} (h : (chunks n).length = k + 1) : wrote n k = decDigits ((chunks n)[k]?.getD 0) := by
  unfold wrote
  rw [if_neg (by omega), chunks_get, Nat.mod_eq_of_lt (chunks_top n k h).2]
theorem div_pow_ne {n k m : Nat} (h : n / CH ^ m ≠ 0) (hk : k ≤ m) : n / CH ^ k ≠ 0 := by
  intro h0
  apply h
  obtain ⟨d, rfl⟩ := Nat.exists_eq_add_of_le hk
  rw [Nat.pow_add, ← Nat.div_div_eq_div_mul, h0, Nat.zero_div]
theorem nDigits_le_of_lt {x : Nat} (h : x < CH) : nDigits x ≤ 19 := by
  apply Nat.le_of_not_lt
  intro hc
  have h1 : ∀ k u : Nat, k + 1 ≤ nDigits u → 1 ≤ k → 10 ^ k ≤ u := by
    intro k
    induction k with
    | zero => intro u _ h0; omega
    | succ k ih =>
      intro u hu _
      by_cases hs : u < 10
      · rw [nDigits_small hs] at hu; omega
      · rw [nDigits_big hs] at hu
        by_cases hk : k = 0
        · subst hk; simpa using hs
        · have := ih (u / 10) (by omega) (by omega)
          rw [Nat.pow_succ]
          omega
  have := h1 19 x (by omega) (by omega)
  rw [CH_pow] at h
  omega
theorem wrote_step {n k : Nat} (h : k + 1 < (chunks n).length) : wrote n k = wrote n (k + 1) ++ (List.replicate (19 - (decDigits ((chunks n)[k]?.getD 0)).length) 48 ++ decDigits ((chunks n)[k]?.getD 0)) := by
  obtain ⟨m, hm⟩ : ∃ m, (chunks n).length = m + 1 := ⟨(chunks n).length - 1, by omega⟩
  have ht := (chunks_top n m hm).1
  have h1 : n / CH ^ (k + 1) ≠ 0 := div_pow_ne ht (by omega)
  have hlt : (chunks n)[k]?.getD 0 < CH := by rw [chunks_get]; exact Nat.mod_lt _ CH_pos
  have hl : (decDigits ((chunks n)[k]?.getD 0)).length ≤ 19 := by
    rw [decDigits_length]
    have := nDigits_le_of_lt hlt
    exact this
  rw [← pad_eq 19 _ hl, chunks_get]
  unfold wrote
  rw [if_neg (by omega), if_neg (by omega)]
  rw [Nat.pow_succ, ← Nat.div_div_eq_div_mul] at h1 ⊢
  exact dec_chunk h1
theorem chunk_digits {n k : Nat} : (decDigits ((chunks n)[k]?.getD 0)).length ≤ 19 ∧ 1 ≤ (decDigits ((chunks n)[k]?.getD 0)).length := by
  have hlt : (chunks n)[k]?.getD 0 < CH := by rw [chunks_get]; exact Nat.mod_lt _ CH_pos
  rw [decDigits_length]
  exact ⟨nDigits_le_of_lt hlt, nDigits_pos _⟩
theorem wrote_length_le : ∀ (j n k : Nat), k + j = (chunks n).length → (wrote n k).length ≤ 19 * j
  | 0, n, k, h => by
    unfold wrote
    rw [if_pos (by omega)]
    simp
  | 1, n, k, h => by
    rw [wrote_top (by omega)]
    have := (chunk_digits (n := n) (k := k)).1
    omega
  | j + 2, n, k, h => by
    have := wrote_length_le (j + 1) n (k + 1) (by omega)
    rw [wrote_step (by omega)]
    have := (chunk_digits (n := n) (k := k)).1
    simp only [List.length_append, List.length_replicate]
    omega
end Go.Proofs.YtphjcphcgnjogaaDoor
