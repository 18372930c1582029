/-
  Joined texts.
-/
import Derived.Test.YtkibkmdgibemkaaDoorTbGDyP
import Derived.WalkLawsBesides
/-
  Floats, plain: a word is a sign and a rung; what a rung is worth; the nearest word is one of the two rungs beside a number.
-/
namespace Go.Proofs.YtkibkmdgibemkaaDoor
set_option linter.unusedSimpArgs false

namespace Fl
/-- How many units of the least float64 a rung is worth. -/
def NR (r : Nat) : Nat := if r < 4503599627370496 then r else (4503599627370496 + r % 4503599627370496) * 2 ^ (r / 4503599627370496 - 1)
/-- Infinity's rung. -/
abbrev INF : Nat := 9218868437227405312
theorem NR_base (E k : Nat) (h1 : 4503599627370496 ≤ k) (h2 : k ≤ 9007199254740992) : NR (E * 4503599627370496 + k) = k * 2 ^ E := by
  unfold NR
  rw [if_neg (by omega)]
  by_cases h : k = 9007199254740992
  · subst h
    rw [show (E * 4503599627370496 + 9007199254740992) % 4503599627370496 = 0 by omega, show (E * 4503599627370496 + 9007199254740992) / 4503599627370496 - 1 = E + 1 by omega, Nat.pow_succ]
    omega
  · rw [show (E * 4503599627370496 + k) % 4503599627370496 = k - 4503599627370496 by omega, show (E * 4503599627370496 + k) / 4503599627370496 - 1 = E by omega, show 4503599627370496 + (k - 4503599627370496) = k by omega]
theorem NR_low {k : Nat} (h : k ≤ 9007199254740992) : NR k = k := by
  by_cases h0 : k < 4503599627370496
  · unfold NR; rw [if_pos h0]
  · have := NR_base 0 k (by omega) h
    simpa using this
theorem NR_split (r : Nat) (h : 4503599627370496 ≤ r) : ∃ E k, r = E * 4503599627370496 + k ∧ 4503599627370496 ≤ k ∧ k < 9007199254740992 :=
  ⟨r / 4503599627370496 - 1, 4503599627370496 + r % 4503599627370496, by omega, by omega, by omega⟩
theorem NR_succ (r : Nat) : NR r < NR (r + 1) := by
  by_cases h : r < 4503599627370496
  · rw [NR_low (by omega), NR_low (by omega)]; omega
  · obtain ⟨E, k, rfl, h1, h2⟩ := NR_split r (by omega)
    rw [NR_base E k h1 (by omega), show E * 4503599627370496 + k + 1 = E * 4503599627370496 + (k + 1) by omega, NR_base E (k + 1) (by omega) (by omega)]
    have : 0 < 2 ^ E := Nat.pow_pos (by omega)
    rw [Nat.succ_mul]
    omega
theorem NR_mono {r s : Nat} (h : r ≤ s) : NR r ≤ NR s := by
  induction s with
  | zero => obtain rfl : r = 0 := by omega
            exact Nat.le_refl _
  | succ s ih =>
    rcases Nat.lt_or_ge r (s + 1) with h1 | h1
    · exact Nat.le_trans (ih (by omega)) (Nat.le_of_lt (NR_succ s))
    · obtain rfl : r = s + 1 := by omega
      exact Nat.le_refl _
theorem NR_lt_iff {r s : Nat} : NR r < NR s ↔ r < s := by
  constructor
  · intro h
    apply Decidable.byContradiction
    intro hc
    have := NR_mono (show s ≤ r by omega)
    omega
  · intro h
    exact Nat.lt_of_lt_of_le (NR_succ r) (NR_mono h)
theorem NR_inj {r s : Nat} (h : NR r = NR s) : r = s := by
  have h1 : ¬ r < s := fun hc => by have := NR_lt_iff.2 hc; omega
  have h2 : ¬ s < r := fun hc => by have := NR_lt_iff.2 hc; omega
  omega
theorem NR_zero : NR 0 = 0 := rfl
/-- A word. -/
def wordB (neg : Bool) (r : Nat) : Nat := if neg then 9223372036854775808 + r else r
theorem word_eq (neg : Bool) (r : Nat) : Ieee.double.word neg r = wordB neg r := by
  unfold Ieee.Format.word wordB
  rw [show Ieee.double.signWeight = 9223372036854775808 by decide]
theorem word_split {w : Nat} (h : w < 18446744073709551616) : ∃ neg r, w = wordB neg r ∧ r < 9223372036854775808 := by
  by_cases h0 : w < 9223372036854775808
  · exact ⟨false, w, rfl, h0⟩
  · exact ⟨true, w - 9223372036854775808, by unfold wordB; simp; omega, by omega⟩
theorem word_parts (neg : Bool) {r : Nat} (h : r < 9223372036854775808) : (wordB neg r / 9223372036854775808 % 2 == 1) = neg ∧ wordB neg r % 9223372036854775808 = r := by
  cases neg
  · simp only [wordB, Bool.false_eq_true, if_false]
    rw [Nat.div_eq_of_lt h, Nat.mod_eq_of_lt h]
    exact ⟨rfl, rfl⟩
  · simp only [wordB, if_true]
    rw [show (9223372036854775808 + r) / 9223372036854775808 = 1 by omega, show (9223372036854775808 + r) % 9223372036854775808 = r by omega]
    exact ⟨rfl, rfl⟩
/-- What a finite word stands for. -/
theorem read_fin (neg : Bool) {r : Nat} (h : r < INF) : ∃ mag k : Nat, Ieee.double.read (wordB neg r) = .number neg mag (-1074 + (k : Int)) ∧ mag * 2 ^ k = NR r := by
  obtain ⟨h1, h2⟩ := word_parts neg (show r < 9223372036854775808 by unfold INF at h; omega)
  unfold Ieee.Format.read
  simp only [show Ieee.double.signWeight = 9223372036854775808 by decide, show Ieee.double.binade = 4503599627370496 by decide, show Ieee.double.infRung = 9218868437227405312 by decide, show Ieee.double.leastPlace = -1074 by decide, h1, h2]
  by_cases h0 : r < 4503599627370496
  · rw [if_pos h0]
    exact ⟨r, 0, by simp, by rw [NR_low (by omega)]; simp⟩
  · rw [if_neg h0, if_pos h]
    exact ⟨_, _, rfl, by unfold NR; rw [if_neg h0]⟩
theorem read_inf (neg : Bool) : Ieee.double.read (wordB neg INF) = .infinity neg := by cases neg <;> decide
theorem read_nan (neg : Bool) {r : Nat} (h : INF < r) (h2 : r < 9223372036854775808) : Ieee.double.read (wordB neg r) = .nan neg (r - INF) := by
  obtain ⟨k1, k2⟩ := word_parts neg h2
  unfold Ieee.Format.read
  simp only [show Ieee.double.signWeight = 9223372036854775808 by decide, show Ieee.double.binade = 4503599627370496 by decide, show Ieee.double.infRung = 9218868437227405312 by decide, k1, k2]
  unfold INF at h ⊢
  rw [if_neg (by omega), if_neg (by omega), if_neg (by omega)]

/-- The nearest word is one of the two beside the number. -/
theorem nearest_rung (neg : Bool) {mag : Nat} (place : Int) (hm : mag ≠ 0) : ∃ f rr, Ieee.double.nearest neg mag place = wordB neg (min rr INF) ∧ NR f * 2 ^ (-1074 - place).toNat ≤ mag * 2 ^ (place + 1074).toNat ∧ mag * 2 ^ (place + 1074).toNat < NR (f + 1) * 2 ^ (-1074 - place).toNat ∧ (rr = f ∨ (rr = f + 1 ∧ NR f * 2 ^ (-1074 - place).toNat < mag * 2 ^ (place + 1074).toNat)) := by
  have hlog := Nat.log2_self_le hm
  have hlog2 := Nat.lt_log2_self (n := mag)
  obtain ⟨last, hlast⟩ : ∃ last, max (place + (Nat.log2 mag : Int) - 52) (-1074) = last := ⟨_, rfl⟩
  obtain ⟨n, hn⟩ : ∃ n, mag * 2 ^ (place - last).toNat = n := ⟨_, rfl⟩
  obtain ⟨drop, hdrop⟩ : ∃ d, (last - place).toNat = d := ⟨_, rfl⟩
  have hn0 : n ≠ 0 := by rw [← hn]; exact Nat.mul_ne_zero hm (Nat.pos_iff_ne_zero.1 (Nat.pow_pos (by omega)))
  -- the cut
  have hcut : ∃ more : Bool, Ieee.Toward.even.cut neg n drop = n / 2 ^ drop + more.toNat ∧ (more = true → n % 2 ^ drop ≠ 0) := by
    unfold Ieee.Toward.cut
    simp only [Nat.one_shiftLeft]
    have hg : n / 2 ^ min drop (Nat.log2 n + 2) = n / 2 ^ drop ∧ n % 2 ^ min drop (Nat.log2 n + 2) = n % 2 ^ drop := by
      by_cases h : drop ≤ Nat.log2 n + 2
      · rw [Nat.min_eq_left h]; exact ⟨rfl, rfl⟩
      · have h1 : n < 2 ^ (Nat.log2 n + 2) := Nat.lt_of_lt_of_le (Nat.lt_log2_self (n := n)) (two_mono (by omega))
        have h2 : n < 2 ^ drop := Nat.lt_of_lt_of_le h1 (two_mono (by omega))
        rw [Nat.min_eq_right (by omega), Nat.div_eq_of_lt h1, Nat.div_eq_of_lt h2, Nat.mod_eq_of_lt h1, Nat.mod_eq_of_lt h2]
        exact ⟨rfl, rfl⟩
    rw [hg.1]
    refine ⟨_, rfl, fun h => ?_⟩
    have hp : 0 < 2 ^ min drop (Nat.log2 n + 2) := Nat.pow_pos (by omega)
    rw [← hg.2]
    generalize n % 2 ^ min drop (Nat.log2 n + 2) = rest at *
    generalize 2 ^ min drop (Nat.log2 n + 2) = gap at *
    rintro rfl
    simp at h
    omega
  obtain ⟨more, hc1, hc2⟩ := hcut
  obtain ⟨low, hlow⟩ : ∃ low, n / 2 ^ drop = low := ⟨_, rfl⟩
  have hp : 0 < 2 ^ drop := Nat.pow_pos (by omega)
  have hd := Nat.div_add_mod n (2 ^ drop)
  have hr := Nat.mod_lt n hp
  rw [hlow] at hc1 hd
  generalize hrest : n % 2 ^ drop = rest at *
  obtain ⟨L, hL⟩ : ∃ L : Nat, last + 1074 = (L : Int) := ⟨(last + 1074).toNat, by omega⟩
  -- how great the part is that is kept
  have hl2 : low < 9007199254740992 := by
    rw [← hlow, Nat.div_lt_iff_lt_mul hp, ← hn, show (9007199254740992 : Nat) = 2 ^ 53 by decide, ← Nat.pow_add]
    have h1 : mag * 2 ^ (place - last).toNat < 2 ^ (Nat.log2 mag + 1) * 2 ^ (place - last).toNat := Nat.mul_lt_mul_of_pos_right hlog2 (Nat.pow_pos (by omega))
    rw [← Nat.pow_add] at h1
    exact Nat.lt_of_lt_of_le h1 (two_mono (by omega))
  have hl1 : L ≠ 0 → 4503599627370496 ≤ low := by
    intro h
    rw [← hlow, Nat.le_div_iff_mul_le hp, ← hn, show (4503599627370496 : Nat) = 2 ^ 52 by decide, ← Nat.pow_add]
    have h1 : 2 ^ Nat.log2 mag * 2 ^ (place - last).toNat ≤ mag * 2 ^ (place - last).toNat := Nat.mul_le_mul_right _ hlog
    rw [← Nat.pow_add] at h1
    exact Nat.le_trans (two_mono (by omega)) h1
  have hN : ∀ k, k ≤ low + 1 → low ≤ k → NR (L * 4503599627370496 + k) = k * 2 ^ L := by
    intro k h1 h2
    by_cases h0 : L = 0
    · subst h0
      rw [Nat.zero_mul, Nat.zero_add, NR_low (by omega)]
      simp
    · exact NR_base L k (by have := hl1 h0; omega) (by omega)
  have hsum : L + (-1074 - place).toNat + (place - last).toNat = (place + 1074).toNat + drop := by omega
  have hprod : mag * 2 ^ (place + 1074).toNat * 2 ^ drop = n * 2 ^ (L + (-1074 - place).toNat) := by
    rw [← hn, Nat.mul_assoc, Nat.mul_assoc, ← Nat.pow_add, ← Nat.pow_add]
    congr 2
    omega
  have hX : ∀ k : Nat, k * 2 ^ L * 2 ^ (-1074 - place).toNat * 2 ^ drop = k * 2 ^ drop * 2 ^ (L + (-1074 - place).toNat) := by
    intro k
    rw [Nat.pow_add]
    ac_rfl
  have hq : 0 < 2 ^ (L + (-1074 - place).toNat) := Nat.pow_pos (by omega)
  have key : ∀ k : Nat, (k * 2 ^ drop ≤ n → k * 2 ^ L * 2 ^ (-1074 - place).toNat ≤ mag * 2 ^ (place + 1074).toNat) ∧ (n < k * 2 ^ drop → mag * 2 ^ (place + 1074).toNat < k * 2 ^ L * 2 ^ (-1074 - place).toNat) ∧ (k * 2 ^ drop < n → k * 2 ^ L * 2 ^ (-1074 - place).toNat < mag * 2 ^ (place + 1074).toNat) := by
    intro k
    refine ⟨fun h => ?_, fun h => ?_, fun h => ?_⟩
    · apply Nat.le_of_mul_le_mul_right _ hp
      rw [hX, hprod]
      exact Nat.mul_le_mul_right _ h
    · apply Nat.lt_of_mul_lt_mul_right (a := 2 ^ drop)
      rw [hX, hprod]
      exact Nat.mul_lt_mul_of_pos_right h hq
    · apply Nat.lt_of_mul_lt_mul_right (a := 2 ^ drop)
      rw [hX, hprod]
      exact Nat.mul_lt_mul_of_pos_right h hq
  rw [Nat.mul_comm] at hd
  obtain ⟨f, hf⟩ : ∃ f, L * 4503599627370496 + low = f := ⟨_, rfl⟩
  have hNf : NR f = low * 2 ^ L := by rw [← hf]; exact hN low (by omega) (Nat.le_refl _)
  have hNf1 : NR (f + 1) = (low + 1) * 2 ^ L := by
    have h := hN (low + 1) (Nat.le_refl _) (by omega)
    rw [← Nat.add_assoc, hf] at h
    exact h
  have hmin : (last - -1074).toNat * 4503599627370496 + (low + more.toNat) = f + more.toNat := by rw [show (last - -1074).toNat = L by omega, ← Nat.add_assoc, hf]
  clear hN hl1 hl2 hX
  refine ⟨f, f + more.toNat, ?_, ?_, ?_, ?_⟩
  · unfold Ieee.Format.nearest
    rw [if_neg hm, word_eq]
    simp only [show ((Ieee.double.fractionBits : Nat) : Int) = 52 by decide, show Ieee.double.leastPlace = -1074 by decide, show Ieee.double.binade = 4503599627370496 by decide, show Ieee.double.infRung = 9218868437227405312 by decide, hlast, Nat.shiftLeft_eq, hn, hdrop, hc1, hmin]
  · rw [hNf]
    exact (key low).1 (by omega)
  · rw [hNf1]
    exact (key (low + 1)).2.1 (by rw [Nat.succ_mul]; omega)
  · cases more
    · left; rfl
    · right
      refine ⟨rfl, ?_⟩
      rw [hNf]
      have := hc2 rfl
      exact (key low).2.2 (by omega)
end Fl
end Go.Proofs.YtkibkmdgibemkaaDoor

/-
  The reference's rounding, quotients and roots of dyads, plain: they are the program's.
-/
namespace Go.Proofs.YtkibkmdgibemkaaDoor
set_option linter.unusedSimpArgs false

/-- Between two neighbours. -/
theorem rd_abs {P m : Nat} {up r1 : Bool} {E : Int} {le ge : Rat → Prop} (hP : 1 ≤ P) (hle : ∀ a b, a ≤ b → le b → le a) (hge : ∀ a b, a ≤ b → ge a → ge b)
    (h1 : r1 = true → le (((m : Int) : Rat) * p2 E) ∧ ¬ le ((((m : Int) + 1 : Int) : Rat) * p2 E) ∧ ge ((((m : Int) + 1 : Int) : Rat) * p2 E) ∧ ¬ ge (((m : Int) : Rat) * p2 E))
    (h2 : r1 = false → (∀ v, le v ↔ v ≤ ((m : Int) : Rat) * p2 E) ∧ (∀ v, ge v ↔ ((m : Int) : Rat) * p2 E ≤ v)) (hq : r1 = true → 2 ^ (P - 1) ≤ m) (hm : m < 2 ^ P) :
    Rd P up le ge (nrm (sg false (if r1 && up then m + 1 else m)) E) := by
  cases r1
  · obtain ⟨k1, k2⟩ := h2 rfl
    simp only [Bool.false_and, Bool.false_eq_true, if_false]
    refine ⟨nrm_can _ _, nrm_short _ _ _ hP (by omega), fun _ => ?_, fun _ => ?_⟩ <;> rw [nrm_q, sg_false]
    · exact ⟨(k1 _).2 Rat.le_refl, fun s _ h => (k1 _).1 h⟩
    · exact ⟨(k2 _).2 Rat.le_refl, fun s _ h => (k2 _).1 h⟩
  · obtain ⟨a1, a2, a3, a4⟩ := h1 rfl
    have hq := hq rfl
    have hc1 : ((m + 1 : Nat) : Int) = (m : Int) + 1 := by push_cast; rfl
    cases up
    · simp only [Bool.true_and, Bool.false_eq_true, if_false]
      refine ⟨nrm_can _ _, nrm_short _ _ _ hP (by omega), fun _ => ?_, fun h => by cases h⟩
      rw [nrm_q, sg_false]
      refine ⟨a1, fun s hs h => gap_le hP hq hs ?_⟩
      rcases rat_tri s.q ((((m : Int) + 1 : Int) : Rat) * p2 E) with h3 | h3 | h3
      · exact h3
      · exact absurd (h3 ▸ h) a2
      · exact absurd (hle _ _ (Rat.le_of_lt h3) h) a2
    · simp only [Bool.true_and, if_true]
      refine ⟨nrm_can _ _, nrm_short _ _ _ hP (by omega), fun h => (by cases h), fun _ => ?_⟩
      rw [nrm_q, sg_false, hc1]
      refine ⟨a3, fun s hs h => gap_ge hP hq hs ?_⟩
      rcases rat_tri s.q (((m : Int) : Rat) * p2 E) with h3 | h3 | h3
      · exact absurd (hge _ _ (Rat.le_of_lt h3) h) a4
      · exact absurd (h3 ▸ h) a4
      · exact h3
theorem sg_neg_q (k : Nat) (E : Int) : (nrm (sg true k) E).q = -(nrm (sg false k) E).q := by
  rw [nrm_q, nrm_q, sg_q, sg_q]
  rfl
/-- The other sign. -/
theorem rd_opp {P k : Nat} {up : Bool} {E : Int} {le ge : Rat → Prop} (hP : 1 ≤ P) (hk : k ≤ 2 ^ P) (h : Rd P (!up) le ge (nrm (sg false k) E)) : Rd P up (fun v => ge (-v)) (fun v => le (-v)) (nrm (sg true k) E) := by
  refine ⟨nrm_can _ _, nrm_short _ _ _ hP hk, fun hu => ?_, fun hu => ?_⟩ <;> subst hu <;> rw [sg_neg_q]
  · obtain ⟨h1, h2⟩ := h.upw rfl
    refine ⟨by simpa using h1, fun s hs hl => ?_⟩
    have h3 := h2 s.opp (opp_short hs) (by rw [opp_q]; exact hl)
    rw [opp_q] at h3
    grind
  · obtain ⟨h1, h2⟩ := h.dn rfl
    refine ⟨by simpa using h1, fun s hs hl => ?_⟩
    have h3 := h2 s.opp (opp_short hs) (by rw [opp_q]; exact hl)
    rw [opp_q] at h3
    grind
/-- The reference's cut. -/
def cutR (P : Nat) (up neg : Bool) (m : Nat) (e : Int) (rest : Bool) : Dy :=
  nrm (sg neg (if (rest || decide (m % 2 ^ (bitsN m - P) ≠ 0)) && (up != neg) then m / 2 ^ (bitsN m - P) + 1 else m / 2 ^ (bitsN m - P))) (e + ((bitsN m - P : Nat) : Int))
theorem cut_sizes {P m : Nat} (hP : 1 ≤ P) : m / 2 ^ (bitsN m - P) < 2 ^ P ∧ (2 ^ (P - 1) ≤ m ∨ m % 2 ^ (bitsN m - P) ≠ 0 → 2 ^ (P - 1) ≤ m / 2 ^ (bitsN m - P)) := by
  have hb := bitsN_lt m
  by_cases h0 : bitsN m ≤ P
  · have e : bitsN m - P = 0 := by omega
    have h1 := two_mono h0
    rw [e, Nat.pow_zero, Nat.div_one, Nat.mod_one]
    exact ⟨by omega, fun h => by rcases h with h | h; exact h; exact absurd rfl h⟩
  · obtain ⟨n, hn⟩ : ∃ n, bitsN m - P = n := ⟨_, rfl⟩
    have hm0 : m ≠ 0 := by rintro rfl; apply h0; unfold bitsN; simp
    obtain ⟨b, h1, h2, h3⟩ := bitsN_spec hm0
    rw [hn]
    have hp : 0 < 2 ^ n := Nat.pow_pos (by omega)
    constructor
    · rw [Nat.div_lt_iff_lt_mul hp, ← Nat.pow_add]
      rwa [show P + n = bitsN m by omega]
    · intro _
      rw [Nat.le_div_iff_mul_le hp, ← Nat.pow_add]
      rwa [show P - 1 + n = b by omega]
theorem cut_abs {P m : Nat} {up rest : Bool} {e : Int} {le ge : Rat → Prop} (hP : 1 ≤ P) (hle : ∀ a b, a ≤ b → le b → le a) (hge : ∀ a b, a ≤ b → ge a → ge b)
    (h1 : rest = true → le (((m : Int) : Rat) * p2 e) ∧ ¬ le ((((m : Int) + 1 : Int) : Rat) * p2 e) ∧ ge ((((m : Int) + 1 : Int) : Rat) * p2 e) ∧ ¬ ge (((m : Int) : Rat) * p2 e))
    (h2 : rest = false → (∀ v, le v ↔ v ≤ ((m : Int) : Rat) * p2 e) ∧ (∀ v, ge v ↔ ((m : Int) : Rat) * p2 e ≤ v)) (hq : rest = true → 2 ^ (P - 1) ≤ m) :
    Rd P up le ge (cutR P up false m e rest) := by
  obtain ⟨s1, s2⟩ := cut_sizes (m := m) hP
  unfold cutR
  rw [Bool.bne_false]
  generalize hn : bitsN m - P = n at *
  have hp : 0 < 2 ^ n := Nat.pow_pos (by omega)
  have hd := Nat.div_add_mod m (2 ^ n)
  have hr := Nat.mod_lt m hp
  obtain ⟨m1, hm1⟩ : ∃ m1, m / 2 ^ n = m1 := ⟨_, rfl⟩
  obtain ⟨r, hre⟩ : ∃ r, m % 2 ^ n = r := ⟨_, rfl⟩
  rw [hm1] at hd s1 s2 ⊢
  rw [hre] at hd hr s2 ⊢
  have d1 := q_down (m1 : Int) (e + (n : Int)) n
  have d2 := q_down ((m1 : Int) + 1) (e + (n : Int)) n
  rw [show e + (n : Int) - (n : Int) = e by omega] at d1 d2
  have c0 : ((2 ^ n * m1 : Nat) : Int) = (m1 : Int) * 2 ^ n := by push_cast; rw [Int.mul_comm]
  have c1 : ((2 ^ n * m1 + 2 ^ n : Nat) : Int) = ((m1 : Int) + 1) * 2 ^ n := by push_cast; rw [Int.add_mul, Int.one_mul, Int.mul_comm]
  have l1 : ((m1 : Int) : Rat) * p2 (e + (n : Int)) ≤ ((m : Int) : Rat) * p2 e := by rw [← d1, rat_le_iff]; omega
  have l2 : (((m : Int) + 1 : Int) : Rat) * p2 e ≤ (((m1 : Int) + 1 : Int) : Rat) * p2 (e + (n : Int)) := by rw [← d2, rat_le_iff]; omega
  have l3 : r ≠ 0 → ((m1 : Int) : Rat) * p2 (e + (n : Int)) < ((m : Int) : Rat) * p2 e := fun h => by rw [← d1, rat_lt_iff]; omega
  have l4 : r = 0 → ((m1 : Int) : Rat) * p2 (e + (n : Int)) = ((m : Int) : Rat) * p2 e := fun h => by rw [← d1, rat_eq_iff]; omega
  have l5 : ((m : Int) : Rat) * p2 e < (((m : Int) + 1 : Int) : Rat) * p2 e := by rw [rat_lt_iff]; omega
  clear d1 d2 c0 c1 hd hr hm1 hre hn
  refine rd_abs hP hle hge (fun hr1 => ?_) (fun hr0 => ?_) (fun hr1 => ?_) s1
  · cases rest
    · have hr : r ≠ 0 := by simpa using hr1
      obtain ⟨k1, k2⟩ := h2 rfl
      have l3 := l3 hr
      exact ⟨(k1 _).2 (Rat.le_of_lt l3), fun h => by have := (k1 _).1 h; grind, (k2 _).2 (by grind), fun h => by have := (k2 _).1 h; grind⟩
    · obtain ⟨a1, a2, a3, a4⟩ := h1 rfl
      exact ⟨hle _ _ l1 a1, fun h => a2 (hle _ _ l2 h), hge _ _ l2 a3, fun h => a4 (hge _ _ l1 h)⟩
  · obtain ⟨rfl, hr⟩ : rest = false ∧ r = 0 := by simpa using hr0
    rw [l4 hr]
    exact h2 rfl
  · apply s2
    cases rest
    · right; simpa using hr1
    · exact .inl (hq rfl)
theorem cut_rd {P m : Nat} {up neg rest : Bool} {e : Int} {T : Rat} (hP : 1 ≤ P) (h1 : rest = true → ((m : Int) : Rat) * p2 e < T ∧ T < (((m : Int) + 1 : Int) : Rat) * p2 e) (h2 : rest = false → T = ((m : Int) : Rat) * p2 e) (hq : rest = true → 2 ^ (P - 1) ≤ m) :
    Rd P up (· ≤ if neg then -T else T) ((if neg then -T else T) ≤ ·) (cutR P up neg m e rest) := by
  have key : ∀ up, Rd P up (· ≤ T) (T ≤ ·) (cutR P up false m e rest) := fun up => cut_abs hP (fun a b h h' => Rat.le_trans h h') (fun a b h h' => Rat.le_trans h' h) (fun hr => by
    obtain ⟨a1, a2⟩ := h1 hr
    exact ⟨Rat.le_of_lt a1, by grind, Rat.le_of_lt a2, by grind⟩) (fun hr => by
    rw [h2 hr]
    exact ⟨fun v => Iff.rfl, fun v => Iff.rfl⟩) hq
  cases neg
  · exact key up
  · have h := key (!up)
    obtain ⟨s1, -⟩ := cut_sizes (m := m) hP
    unfold cutR at h ⊢
    rw [Bool.bne_false] at h
    rw [Bool.bne_true]
    have h3 := rd_opp hP (by split <;> omega) h
    exact h3.congr (fun s _ => by simp only [if_true]; grind) (fun s _ => by simp only [if_true]; grind)
/-- The reference's quotients. -/
def quoRn (P : Nat) (x y : Dy) : Nat := P + 2 + bitsN y.z.natAbs - bitsN x.z.natAbs
def quoR (P : Nat) (up : Bool) (x y : Dy) : Dy := cutR P up (decide (x.z < 0) != decide (y.z < 0)) (x.z.natAbs * 2 ^ quoRn P x y / y.z.natAbs) (x.e - y.e - (quoRn P x y : Int)) (decide (0 < x.z.natAbs * 2 ^ quoRn P x y % y.z.natAbs))
theorem cutR_zero (P : Nat) (up neg : Bool) (e : Int) : cutR P up neg 0 e false = ⟨0, 0⟩ := by
  unfold cutR
  simp [sg_zero, nrm_zero]
theorem quo_ref {P : Nat} {up : Bool} {x y : Dy} (hP : 1 ≤ P) (hy : y.z ≠ 0) : quoR P up x y = quoQ P up x y := by
  unfold quoR quoQ
  rw [if_neg hy]
  by_cases hx : x.z = 0
  · rw [if_pos hx, hx]
    simp [cutR_zero]
  · rw [if_neg hx]
    obtain ⟨bx, x1, x2, x3⟩ := bitsN_spec (n := x.z.natAbs) (by omega)
    obtain ⟨b, y1, y2, y3⟩ := bitsN_spec (n := y.z.natAbs) (by omega)
    have hyq : y.q ≠ 0 := fun h => hy (q_zero.1 h)
    obtain ⟨t, ht⟩ : ∃ t : Rat, t * y.q = x.q := ⟨x.q / y.q, by rw [Rat.div_mul_cancel hyq]⟩
    refine Rd.unique ?_ (quo_rd hP hx hy ht)
    have hx' := abs_q x
    have hy' := abs_q y
    obtain ⟨T, hT⟩ : ∃ T, T = if decide (x.z < 0) != decide (y.z < 0) then -t else t := ⟨_, rfl⟩
    have ht2 : t = if decide (x.z < 0) != decide (y.z < 0) then -T else T := by
      rw [hT]; cases decide (x.z < 0) <;> cases decide (y.z < 0) <;> simp
      all_goals grind
    have hc : T * (((y.z.natAbs : Int) : Rat) * p2 y.e) = ((x.z.natAbs : Int) : Rat) * p2 x.e := by
      rw [hx', hy', hT]
      cases decide (x.z < 0) <;> cases decide (y.z < 0) <;> simp <;> grind
    rw [ht2]
    have hn : quoRn P x y = P + 2 + bitsN y.z.natAbs - bitsN x.z.natAbs := rfl
    generalize quoRn P x y = n at *
    generalize x.z.natAbs = X at *
    generalize y.z.natAbs = Y at *
    have hY0 : 0 < Y := by have : 0 < 2 ^ b := Nat.pow_pos (by omega); omega
    have hd := Nat.div_add_mod (X * 2 ^ n) Y
    have hm := Nat.mod_lt (X * 2 ^ n) hY0
    have hbig : 2 ^ (P - 1) ≤ X * 2 ^ n / Y := by
      rw [Nat.le_div_iff_mul_le hY0]
      have h1 : 2 ^ (P - 1) * Y ≤ 2 ^ (P - 1) * 2 ^ (b + 1) := Nat.mul_le_mul_left _ (Nat.le_of_lt y3)
      have h2 : 2 ^ bx * 2 ^ n ≤ X * 2 ^ n := Nat.mul_le_mul_right _ x2
      rw [← Nat.pow_add] at h1 h2
      have h3 := two_mono (show P - 1 + (b + 1) ≤ bx + n by omega)
      omega
    generalize X * 2 ^ n / Y = q at *
    generalize hr : X * 2 ^ n % Y = r at *
    -- the quotient at its exponent
    have e1 := q_down (X : Int) x.e n
    have e2 : (((X : Int) * 2 ^ n : Int) : Rat) = ((((Y * q + r : Nat) : Int)) : Rat) := by rw [hd]; push_cast; rfl
    have e3 : T * (((Y : Int) : Rat) * p2 y.e) = (((Y * q + r : Nat) : Int) : Rat) * p2 (x.e - (n : Int)) := by rw [hc, ← e1, e2]
    have e4 : p2 (x.e - (n : Int)) = p2 y.e * p2 (x.e - y.e - (n : Int)) := by rw [← p2_add]; congr 1; omega
    have hyp := p2_pos y.e
    have hYr : (0 : Rat) < ((Y : Int) : Rat) := by
      have := (Rat.intCast_lt_intCast (a := 0) (b := (Y : Int))).2 (by omega)
      simpa using this
    rw [e4] at e3
    generalize x.e - y.e - (n : Int) = E at *
    have e5 : T * ((Y : Int) : Rat) = (((Y * q + r : Nat) : Int) : Rat) * p2 E := by
      apply rat_cancel hyp
      rw [Rat.mul_assoc, e3]
      grind
    have hEp := p2_pos E
    have e6 : (((Y * q + r : Nat) : Int) : Rat) = ((Y : Int) : Rat) * ((q : Int) : Rat) + ((r : Int) : Rat) := by rw [Int.natCast_add, Int.natCast_mul, Rat.intCast_add, Rat.intCast_mul]
    rw [e6] at e5
    have hrY : ((r : Int) : Rat) < ((Y : Int) : Rat) := (Rat.intCast_lt_intCast).2 (by omega)
    have hq1 : (((q : Int) + 1 : Int) : Rat) = ((q : Int) : Rat) + 1 := by rw [Rat.intCast_add]; rfl
    clear e1 e2 e3 e4 e6 hx' hy' hc hT ht2
    refine cut_rd hP (fun hrest => ?_) (fun hrest => ?_) (fun _ => hbig)
    · have hr0 : 0 < r := by simpa using hrest
      have hrp : (0 : Rat) < ((r : Int) : Rat) := by
        have := (Rat.intCast_lt_intCast (a := 0) (b := (r : Int))).2 (by omega)
        simpa using this
      rw [hq1]
      generalize ((r : Int) : Rat) = R at *
      generalize ((q : Int) : Rat) = Q at *
      generalize ((Y : Int) : Rat) = V at *
      generalize p2 E = W at *
      have m1 : 0 < R * W := Rat.mul_pos hrp hEp
      have m2 : 0 < (V - R) * W := Rat.mul_pos (by grind) hEp
      have k1 : Q * W * V < T * V := by grind
      have k2 : T * V < (Q + 1) * W * V := by grind
      exact ⟨(Rat.mul_lt_mul_right hYr).1 k1, (Rat.mul_lt_mul_right hYr).1 k2⟩
    · have hr0 : r = 0 := by have : ¬ 0 < r := by simpa using hrest
                             omega
      subst hr0
      apply rat_cancel hYr
      rw [e5]
      simp
      grind
end Go.Proofs.YtkibkmdgibemkaaDoor

/-
  Floats, plain: the dyad of a word, the order of words, and what flo.Float tells: the word beside a dyad.
-/
namespace Go.Proofs.YtkibkmdgibemkaaDoor
set_option linter.unusedSimpArgs false

namespace Fl
def mantW (r : Nat) : Nat := if r < 4503599627370496 then r else 4503599627370496 + r % 4503599627370496
def expoW (r : Nat) : Nat := r / 4503599627370496 - 1
theorem mant_expo (r : Nat) : mantW r * 2 ^ expoW r = NR r := by
  unfold mantW expoW NR
  by_cases h : r < 4503599627370496
  · rw [if_pos h, if_pos h, Nat.div_eq_of_lt h]; simp
  · rw [if_neg h, if_neg h]
/-- The dyad of a word. -/
def fD (neg : Bool) (r : Nat) : Dy := nrm (sg neg (mantW r)) ((expoW r : Int) - 1074)
theorem sg_pow (s : Bool) (n k : Nat) : sg s n * 2 ^ k = sg s (n * 2 ^ k) := by cases s <;> simp [sg, Int.neg_mul]
theorem sg_mulN (s : Bool) (n k : Nat) : sg s n * (k : Int) = sg s (n * k) := by cases s <;> simp [sg, Int.neg_mul]
theorem fD_q (neg : Bool) (r : Nat) : (fD neg r).q = ((sg neg (NR r) : Int) : Rat) * p2 (-1074) := by
  unfold fD
  rw [nrm_q, ← mant_expo r, ← sg_pow, show (-1074 : Int) = ((expoW r : Int) - 1074) - (expoW r : Int) by omega, q_down]
theorem fD_can (neg : Bool) (r : Nat) : Can (fD neg r) := nrm_can _ _

/-- The order of two words. -/
theorem compare_int (x y : Int) : compare x y = if x < y then .lt else if x = y then .eq else .gt := rfl
theorem compare_scale {x y p : Int} (hp : 0 < p) : compare (x * p) (y * p) = compare x y := by
  have h1 : x * p < y * p ↔ x < y := ⟨fun h => Int.lt_of_mul_lt_mul_right h (by omega), fun h => Int.mul_lt_mul_of_pos_right h hp⟩
  have h2 : x * p = y * p ↔ x = y := ⟨fun h => Int.eq_of_mul_eq_mul_right (by omega) h, fun h => by rw [h]⟩
  rw [compare_int, compare_int]
  simp only [h1, h2]
theorem signed_sg (neg : Bool) (m n : Nat) : Ieee.signed neg m n = sg neg (m * 2 ^ n) := by
  cases neg <;> simp [Ieee.signed, sg, Nat.shiftLeft_eq]
theorem compare_lt_iff {x y : Int} : compare x y = .lt ↔ x < y := by rw [compare_int]; split <;> simp_all <;> split <;> simp_all
theorem compare_eq_iff {x y : Int} : compare x y = .eq ↔ x = y := by
  rw [compare_int]
  by_cases h1 : x < y
  · rw [if_pos h1]; constructor <;> intro h <;> first | (cases h; done) | omega
  · rw [if_neg h1]
    by_cases h2 : x = y
    · rw [if_pos h2]; exact ⟨fun _ => h2, fun _ => rfl⟩
    · rw [if_neg h2]; exact ⟨fun h => (by cases h), fun h => absurd h h2⟩
theorem compare_gt_iff {x y : Int} : compare x y = .gt ↔ y < x := by
  rw [compare_int]
  by_cases h1 : x < y
  · rw [if_pos h1]; constructor <;> intro h <;> first | (cases h; done) | omega
  · rw [if_neg h1]
    by_cases h2 : x = y
    · rw [if_pos h2]; constructor <;> intro h <;> first | (cases h; done) | omega
    · rw [if_neg h2]; exact ⟨fun h => (by omega), fun h => rfl⟩
theorem sg_cmp_inf (a b : Bool) {r s : Nat} (h : r < s) : compare (sg a s) (sg b r) = (if a then .lt else .gt : Ordering) ∧ compare (sg a r) (sg b s) = (if b then .gt else .lt : Ordering) := by
  cases a <;> cases b <;> simp only [sg, Bool.false_eq_true, if_false, if_true] <;> refine ⟨?_, ?_⟩ <;> first | exact compare_lt_iff.2 (by omega) | exact compare_gt_iff.2 (by omega)
theorem ord_word (a b : Bool) {r s : Nat} (hr : r ≤ INF) (hs : s ≤ INF) : Ieee.double.order (wordB a r) (wordB b s) = some (compare (sg a (NR r)) (sg b (NR s))) := by
  unfold Ieee.Format.order
  rcases Nat.lt_or_ge r INF with h1 | h1
  · obtain ⟨m, k, e1, e2⟩ := read_fin a h1
    rcases Nat.lt_or_ge s INF with h2 | h2
    · obtain ⟨n, l, e3, e4⟩ := read_fin b h2
      rw [e1, e3]
      unfold Ieee.Datum.order
      simp only [signed_sg]
      obtain ⟨u, hu⟩ : ∃ u : Nat, min (-1074 + (k : Int)) (-1074 + (l : Int)) = -1074 + (u : Int) := ⟨min k l, by omega⟩
      rw [hu, ← compare_scale (p := ((2 ^ u : Nat) : Int)) (by have : 0 < 2 ^ u := Nat.pow_pos (by omega); omega), sg_mulN, sg_mulN, Nat.mul_assoc, Nat.mul_assoc, ← Nat.pow_add, ← Nat.pow_add, show (-1074 + (k : Int) - (-1074 + (u : Int))).toNat + u = k by omega, show (-1074 + (l : Int) - (-1074 + (u : Int))).toNat + u = l by omega, e2, e4]
    · obtain rfl : s = INF := by omega
      rw [e1, read_inf]
      unfold Ieee.Datum.order
      simp only
      rw [(sg_cmp_inf a b (NR_lt_iff.2 h1)).2]
  · obtain rfl : r = INF := by omega
    rcases Nat.lt_or_ge s INF with h2 | h2
    · obtain ⟨n, l, e3, e4⟩ := read_fin b h2
      rw [e3, read_inf]
      unfold Ieee.Datum.order
      simp only
      rw [(sg_cmp_inf a b (NR_lt_iff.2 h2)).1]
    · obtain rfl : s = INF := by omega
      rw [read_inf, read_inf]
      unfold Ieee.Datum.order
      have h0 : 0 < NR INF := Nat.lt_of_le_of_lt (Nat.zero_le _) (NR_lt_iff.2 (show 0 < INF by decide))
      generalize NR INF = n at *
      cases a <;> cases b <;> simp only [sg, Bool.false_eq_true, if_false, if_true]
      · rw [compare_eq_iff.2 rfl]; rfl
      · rw [compare_gt_iff.2 (by omega)]; rfl
      · rw [compare_lt_iff.2 (by omega)]; rfl
      · rw [compare_eq_iff.2 rfl]; rfl
/-- Signed rungs stand as what they are worth. -/
theorem sg_rung (a b : Bool) (r s : Nat) : compare (sg a (NR r)) (sg b (NR s)) = compare (sg a r) (sg b s) := by
  have h1 : NR r < NR s ↔ r < s := NR_lt_iff
  have h2 : NR s < NR r ↔ s < r := NR_lt_iff
  have h3 : NR r = NR s ↔ r = s := ⟨NR_inj, fun h => by rw [h]⟩
  have h4 : 0 < NR r ↔ 0 < r := by have := NR_lt_iff (r := 0) (s := r); rw [NR_zero] at this; exact this
  have h5 : 0 < NR s ↔ 0 < s := by have := NR_lt_iff (r := 0) (s := s); rw [NR_zero] at this; exact this
  rw [compare_int, compare_int]
  cases a <;> cases b <;> simp only [sg, if_true, if_false, Bool.false_eq_true]
  all_goals
    congr 1
    · apply propext; constructor <;> intro h <;> omega
    · congr 1
      apply propext; constructor <;> intro h <;> omega
theorem ord_rung (a b : Bool) {r s : Nat} (hr : r ≤ INF) (hs : s ≤ INF) : Ieee.double.order (wordB a r) (wordB b s) = some (compare (sg a r) (sg b s)) := by rw [ord_word a b hr hs, sg_rung]
theorem ord_nan (a : Bool) {r : Nat} (h : INF < r) (h2 : r < 9223372036854775808) (w : Nat) : Ieee.double.order (wordB a r) w = none ∧ Ieee.double.order w (wordB a r) = none := by
  unfold Ieee.Format.order
  rw [read_nan a h h2]
  refine ⟨rfl, ?_⟩
  cases Ieee.double.read w <;> rfl

theorem unit_le (m n : Nat) (e : Int) : n * 2 ^ (-1074 - e).toNat ≤ m * 2 ^ (e + 1074).toNat ↔ ((n : Int) : Rat) * p2 (-1074) ≤ ((m : Int) : Rat) * p2 e := by
  have h1 := q_at (x := ⟨(n : Int), -1074⟩) (m := min (-1074) e) (by show min (-1074) e ≤ -1074; omega)
  have h2 := q_at (x := ⟨(m : Int), e⟩) (m := min (-1074) e) (by show min (-1074) e ≤ e; omega)
  unfold Dy.q at h1 h2
  simp only at h1 h2
  rw [h1, h2, rat_le_iff, show (-1074 - min (-1074) e).toNat = (-1074 - e).toNat by omega, show (e - min (-1074) e).toNat = (e + 1074).toNat by omega]
  generalize (-1074 - e).toNat = a
  generalize (e + 1074).toNat = b
  rw [← Int.ofNat_le]
  push_cast
  exact Iff.rfl
theorem unit_lt (m n : Nat) (e : Int) : m * 2 ^ (e + 1074).toNat < n * 2 ^ (-1074 - e).toNat ↔ ((m : Int) : Rat) * p2 e < ((n : Int) : Rat) * p2 (-1074) := by
  have h := unit_le m n e
  constructor
  · intro h1
    apply Rat.not_le.1
    intro h2
    have := h.2 h2
    omega
  · intro h1
    have h2 : ¬ n * 2 ^ (-1074 - e).toNat ≤ m * 2 ^ (e + 1074).toNat := fun hc => Rat.not_le.2 h1 (h.1 hc)
    omega
abbrev ru (n : Nat) : Rat := ((NR n : Int) : Rat) * p2 (-1074)
theorem ru_lt {r s : Nat} : ru r < ru s ↔ r < s := by
  unfold ru
  rw [rat_lt_iff]
  exact Int.ofNat_lt.trans NR_lt_iff
theorem ru_le {r s : Nat} : ru r ≤ ru s ↔ r ≤ s := by
  have h := ru_lt (r := s) (s := r)
  constructor
  · intro h1
    have : ¬ s < r := fun hc => Rat.not_le.2 (h.2 hc) h1
    omega
  · intro h1
    apply Rat.not_lt.1
    intro hc
    have := h.1 hc
    omega
theorem ru_zero : ru 0 = 0 := by unfold ru; rw [NR_zero]; simp
end Fl
end Go.Proofs.YtkibkmdgibemkaaDoor

/-
  Floats, plain: a step; the two words beside a number; powers of two; sums.
-/
namespace Go.Proofs.YtkibkmdgibemkaaDoor
set_option linter.unusedSimpArgs false

namespace Fl
/-- flo.Step. -/
def stepW (up : Bool) (s : Bool) (r : Nat) : Nat := if INF < r then wordB s r else if r = 0 then wordB (!up) 1 else if r = INF ∧ s = !up then wordB s r else if (!s) = up then wordB s r + 1 else wordB s r - 1
theorem cmp_beq (x y : Int) (o : Ordering) : (some (compare x y) == some o) = decide (compare x y = o) := by
  rw [Bool.eq_iff_iff]; simp
theorem inf_val : INF = 9218868437227405312 := rfl
theorem word_suc (s : Bool) (r : Nat) : wordB s r + 1 = wordB s (r + 1) := by cases s <;> simp [wordB] <;> omega
theorem word_pre (s : Bool) {r : Nat} (h : 0 < r) : wordB s r - 1 = wordB s (r - 1) := by cases s <;> simp [wordB] <;> omega
theorem word_zero : wordB false 0 = 0 := rfl
theorem fD_le {a : Bool} {r : Nat} {q : Rat} (h : (if a then -ru r else ru r) ≤ q) : (fD a r).q ≤ q := by
  rw [fD_q]
  cases a
  · simpa [sg, ru] using h
  · have e : ((sg true (NR r) : Int) : Rat) * p2 (-1074) = -ru r := by
      unfold ru sg
      simp only [if_true]
      push_cast
      rw [Rat.neg_mul]
    rw [e]
    exact h
theorem fD_ge {a : Bool} {r : Nat} {q : Rat} (h : q ≤ (if a then -ru r else ru r)) : q ≤ (fD a r).q := by
  rw [fD_q]
  cases a
  · simpa [sg, ru] using h
  · have e : ((sg true (NR r) : Int) : Rat) * p2 (-1074) = -ru r := by
      unfold ru sg
      simp only [if_true]
      push_cast
      rw [Rat.neg_mul]
    rw [e]
    exact h
theorem fD_val (a : Bool) (r : Nat) : (fD a r).q = (if a then -ru r else ru r) := rat_le_antisymm (fD_le (by grind)) (fD_ge (by grind))
end Fl
end Go.Proofs.YtkibkmdgibemkaaDoor

/-
  Package flo by value: Finite, Step, beyond, within; math.IsNaN, IsInf, Inf.
-/
namespace Go.Proofs.YtkibkmdgibemkaaDoor
set_option linter.unusedSimpArgs false
open Go.RowKit

namespace Fl
theorem xor_top {r : Nat} (h : r < 2 ^ 63) : r ^^^ 2 ^ 63 = 2 ^ 63 + r := by
  apply Nat.eq_of_testBit_eq
  intro i
  rw [Nat.testBit_xor, Nat.testBit_two_pow]
  rcases Nat.lt_trichotomy i 63 with hi | hi | hi
  · rw [Nat.testBit_two_pow_add_gt hi]
    have : decide (63 = i) = false := by simp; omega
    rw [this, Bool.xor_false]
  · subst hi
    rw [Nat.testBit_two_pow_add_eq, Nat.testBit_lt_two_pow h]
    rfl
  · have h1 : r < 2 ^ i := Nat.lt_of_lt_of_le h (Nat.pow_le_pow_right (by omega) (by omega))
    have h2 : 2 ^ 63 + r < 2 ^ i := by
      have : 2 ^ 64 ≤ 2 ^ i := Nat.pow_le_pow_right (by omega) (by omega)
      omega
    rw [Nat.testBit_lt_two_pow h1, Nat.testBit_lt_two_pow h2]
    simp
    omega
theorem neg_word (s : Bool) {r : Nat} (h : r < 9223372036854775808) : Op.negFloat .f64 (wordB s r) = wordB (!s) r := by
  have e : Op.negFloat .f64 = fun b => b ^^^ 2 ^ 63 := by funext b; rfl
  rw [e]
  cases s
  · show r ^^^ 2 ^ 63 = 9223372036854775808 + r
    rw [xor_top h]
  · show (9223372036854775808 + r) ^^^ 2 ^ 63 = r
    rw [show 9223372036854775808 + r = r ^^^ 2 ^ 63 from (xor_top h).symm, Nat.xor_assoc, Nat.xor_self, Nat.xor_zero]
theorem word_lt (s : Bool) {r : Nat} (h : r < 9223372036854775808) : wordB s r < 18446744073709551616 := by cases s <;> simp [wordB] <;> omega
/-- flo.Finite. -/
def finB (f : Nat) : Bool := decide (f / 4503599627370496 % 2048 ≠ 2047)
theorem fin_arith (b : Nat) (hb : b < 18446744073709551616) : (bits BinOp.and IntKind.u64 ((b : Int) / 4503599627370496) 2047 != 2047) = finB b := by
  have e1 : ((b : Int) / 4503599627370496) = ((b / 4503599627370496 : Nat) : Int) := by omega
  have h1 : bits BinOp.and IntKind.u64 ((b / 4503599627370496 : Nat) : Int) ((2047 : Nat) : Int) = (((b / 4503599627370496) &&& 2047 : Nat) : Int) := bits_and_u64_nat _ _ (by omega) (by omega)
  rw [e1, show (2047 : Int) = ((2047 : Nat) : Int) from rfl, h1]
  have h2 : (b / 4503599627370496) &&& 2047 = (b / 4503599627370496) % 2048 := Nat.and_two_pow_sub_one_eq_mod _ 11
  rw [h2]
  unfold finB
  rw [Bool.eq_iff_iff]
  simp
  omega
theorem fin_word (s : Bool) {r : Nat} (h : r < 9223372036854775808) : finB (wordB s r) = decide (r < INF) := by
  unfold finB
  rw [Bool.eq_iff_iff]
  cases s <;> simp [wordB, INF] <;> omega
theorem bits_run (n : Nat) (w : World) : (callFunc 47 #[.float .f64 n]).run Tryd.prog w = .ok (.value (.int .u64 (n : Int))) w := by kernel_rfl
theorem frombits_run (n : Nat) (w : World) : (callFunc 99 #[.int .u64 (n : Int)]).run Tryd.prog w = .ok (.value (.float .f64 n)) w := by kernel_rfl

set_option maxHeartbeats 400000 in
theorem finite_any (b : Nat) (hb : b < 18446744073709551616) (w : World) :
    Calls Tryd.prog 7 #[.float .f64 b] w fun e w' => e = .returned (.bool (finB b)) ∧ w = w' := by
  have h := bits_run
  have hf := Lib.hid (fin_arith b hb)
  clear hb
  go_enter Tryd.func7, Tryd.ntmps7
  go_wp2
  go_ret
  exact ⟨by simp [hf.out], rfl⟩

theorem isnan_any (v : Nat) (c : Bool) (w : World) (ho : (FloatKind.f64.format.order v v == some .eq) = c) : Calls Tryd.prog 100 #[.float .f64 v] w fun e w' => e = .returned (.bool (!c)) ∧ w = w' := by
  go_enter Tryd.func100, Tryd.ntmps100
  go_wp2_with fail
  go_ret
  exact ⟨by rw [← ho]; rfl, rfl⟩
theorem infp_any (u : Nat) (w : World) (hu : Hid (9218868437227405312 = u)) : Calls Tryd.prog 81 #[.int .i64 1] w fun e w' => e = .returned (.float .f64 u) ∧ w = w' := by
  have f2 : ∀ w : World, (callFunc 99 #[.int .u64 9218868437227405312]).run Tryd.prog w = .ok (.value (.float .f64 u)) w := fun w => by rw [← hu.out]; kernel_rfl
  go_enter Tryd.func81, Tryd.ntmps81
  go_wp2_with fail
  go_ret
  exact ⟨rfl, rfl⟩
theorem infn_any (u : Nat) (w : World) (hu : Hid (18442240474082181120 = u)) : Calls Tryd.prog 81 #[.int .i64 (-1)] w fun e w' => e = .returned (.float .f64 u) ∧ w = w' := by
  have f2 : ∀ w : World, (callFunc 99 #[.int .u64 18442240474082181120]).run Tryd.prog w = .ok (.value (.float .f64 u)) w := fun w => by rw [← hu.out]; kernel_rfl
  go_enter Tryd.func81, Tryd.ntmps81
  go_wp2_with fail
  go_ret
  exact ⟨rfl, rfl⟩
theorem isinf_p (v : Nat) (c : Bool) (w : World) (ho : (FloatKind.f64.format.order v 9218868437227405311 == some .gt) = c) : Calls Tryd.prog 101 #[.float .f64 v, .int .i64 1] w fun e w' => e = .returned (.bool c) ∧ w = w' := by
  go_enter Tryd.func101, Tryd.ntmps101
  go_wp2_with fail
  go_ret
  exact ⟨by simp, rfl⟩
theorem isinf_n (v nv : Nat) (c : Bool) (w : World) (hn : Op.negFloat .f64 v = nv) (ho : (FloatKind.f64.format.order nv 9218868437227405311 == some .gt) = c) : Calls Tryd.prog 101 #[.float .f64 v, .int .i64 (-1)] w fun e w' => e = .returned (.bool c) ∧ w = w' := by
  have hr : ∀ w : World, (Op.unary UnOp.neg (.float .f64 v)).run Tryd.prog w = .ok (.float .f64 nv) w := fun w => by rw [← hn]; rfl
  clear hn
  go_enter Tryd.func101, Tryd.ntmps101
  go_wp2_with fail
  go_ret
  exact ⟨by simp, rfl⟩
set_option maxHeartbeats 1600000 in
theorem step_core (v nv u : Nat) (dir : Int) (up nn ip in_ : Bool) (c0 : Option Ordering) (w : World) (hd : decide (dir < 0) = !up) (hd2 : decide (0 ≤ dir) = up) (HN : Hid (Op.negFloat .f64 v = nv)) (O1 : Hid ((FloatKind.f64.format.order v v == some .eq) = nn)) (o2 : FloatKind.f64.format.order v 0 = c0) (O3 : Hid ((FloatKind.f64.format.order v 9218868437227405311 == some .gt) = ip)) (O4 : Hid ((FloatKind.f64.format.order nv 9218868437227405311 == some .gt) = in_)) (hv : nn = true → v < 18446744073709551615) (hv0 : c0 = some .eq ∨ nn = false ∨ 0 < v)
    (hu : Hid ((if nn then (if c0 == some .eq then (if up then 1 else 9223372036854775809) else if (ip && up) || (in_ && !up) then v else if (c0 == some .gt) = up then v + 1 else v - 1) else v) = u)) :
    Calls Tryd.prog 82 #[.float .f64 v, .int .i64 dir] w fun e w' => e = .returned (.float .f64 u) ∧ w = w' := by
  have hb := bits_run
  have hf1 : ∀ w : World, (callFunc 99 #[.int .u64 ((v : Int) + 1)]).run Tryd.prog w = .ok (.value (.float .f64 (v + 1))) w := fun w => frombits_run (v + 1) w
  cases nn
  · have hu := hu.out
    simp only [Bool.false_eq_true, if_false] at hu
    subst hu
    clear hv0 hv
    go_enter Tryd.func82, Tryd.ntmps82
    go_wp2_with (first | (go_at_call 100; (with_reducible refine (isnan_any _ _ _ O1.out).mono ?_); rintro e w' ⟨rfl, rfl⟩) | (go_at_call 101; (with_reducible refine (isinf_p _ _ _ O3.out).mono ?_); rintro e w' ⟨rfl, rfl⟩) | (go_at_call 101; (with_reducible refine (isinf_n _ _ _ _ HN.out O4.out).mono ?_); rintro e w' ⟨rfl, rfl⟩))
    go_ret
    exact ⟨rfl, rfl⟩
  · have hv' : (v : Int) < 18446744073709551615 := by have := hv rfl; omega
    by_cases hz : c0 = some .eq
    · have hz' : (c0 == some .eq) = true := by simpa using hz
      clear hv0 hz
      have hu := hu.out
      simp only [hz', if_true] at hu
      cases up
      · simp only [Bool.false_eq_true, if_false] at hu
        have HU := Lib.hid hu
        simp only [Bool.not_false, decide_eq_true_eq] at hd
        clear hd2 hu hv hv' hf1
        go_enter Tryd.func82, Tryd.ntmps82
        go_wp2_with (first | (go_at_call 100; (with_reducible refine (isnan_any _ _ _ O1.out).mono ?_); rintro e w' ⟨rfl, rfl⟩) | (go_at_call 101; (with_reducible refine (isinf_p _ _ _ O3.out).mono ?_); rintro e w' ⟨rfl, rfl⟩) | (go_at_call 101; (with_reducible refine (isinf_n _ _ _ _ HN.out O4.out).mono ?_); rintro e w' ⟨rfl, rfl⟩))
        go_ret
        exact ⟨by rw [← HU.out]; rfl, rfl⟩
      · simp only [if_true] at hu
        have HU := Lib.hid hu
        simp only [decide_eq_true_eq] at hd2
        clear hd hu hv hv' hf1
        go_enter Tryd.func82, Tryd.ntmps82
        go_wp2_with (first | (go_at_call 100; (with_reducible refine (isnan_any _ _ _ O1.out).mono ?_); rintro e w' ⟨rfl, rfl⟩) | (go_at_call 101; (with_reducible refine (isinf_p _ _ _ O3.out).mono ?_); rintro e w' ⟨rfl, rfl⟩) | (go_at_call 101; (with_reducible refine (isinf_n _ _ _ _ HN.out O4.out).mono ?_); rintro e w' ⟨rfl, rfl⟩))
        go_ret
        exact ⟨by rw [← HU.out]; rfl, rfl⟩
    · have hz' : (c0 == some .eq) = false := by simpa using hz
      have hv0' : 0 < v := by rcases hv0 with h | h | h; exact absurd h hz; cases h; exact h
      have hf2 : ∀ w : World, (callFunc 99 #[.int .u64 ((v : Int) - 1)]).run Tryd.prog w = .ok (.value (.float .f64 (v - 1))) w := fun w => by
        have := frombits_run (v - 1) w
        rwa [show ((v - 1 : Nat) : Int) = (v : Int) - 1 by omega] at this
      have hvp : (0 : Int) < (v : Int) := by omega
      clear hv0 hz hv hv0'
      have hu := hu.out
      simp only [hz', Bool.false_eq_true, if_false, if_true] at hu
      obtain ⟨g, hg⟩ : ∃ g, (c0 == some .gt) = g := ⟨_, rfl⟩
      rw [hg] at hu
      cases up <;> cases ip <;> cases in_ <;> cases g <;> simp at hu <;> subst hu <;> simp only [Bool.not_false, Bool.not_true] at hd hd2
      all_goals clear hu
      all_goals
        go_enter Tryd.func82, Tryd.ntmps82
        go_wp2_with (first | (go_at_call 100; (with_reducible refine (isnan_any _ _ _ O1.out).mono ?_); rintro e w' ⟨rfl, rfl⟩) | (go_at_call 101; (with_reducible refine (isinf_p _ _ _ O3.out).mono ?_); rintro e w' ⟨rfl, rfl⟩) | (go_at_call 101; (with_reducible refine (isinf_n _ _ _ _ HN.out O4.out).mono ?_); rintro e w' ⟨rfl, rfl⟩))
        go_ret
        exact ⟨rfl, rfl⟩
theorem dec_neg (dir : Int) : decide (dir < 0) = !decide (0 ≤ dir) := by
  by_cases h5 : 0 ≤ dir
  · rw [decide_eq_true h5, decide_eq_false (by omega)]; rfl
  · rw [decide_eq_false h5, decide_eq_true (by omega)]; rfl
theorem step_any (s : Bool) {r : Nat} (h : r < 9223372036854775808) (dir : Int) (u : Nat) (hu : stepW (decide (0 ≤ dir)) s r = u) (w : World) : Calls Tryd.prog 82 #[.float .f64 (wordB s r), .int .i64 dir] w fun e w' => e = .returned (.float .f64 u) ∧ w = w' := by
  have hd : decide (dir < 0) = !decide (0 ≤ dir) := dec_neg dir
  have hn := neg_word s h
  have hz : (0 : Nat) = wordB false 0 := rfl
  have hm : (9218868437227405311 : Nat) = wordB false (INF - 1) := rfl
  by_cases h1 : r ≤ INF
  · have o1 : (FloatKind.f64.format.order (wordB s r) (wordB s r) == some .eq) = true := by
      show (Ieee.double.order _ _ == _) = true
      rw [ord_rung s s h1 h1, compare_eq_iff.2 rfl]
      rfl
    have o2 : FloatKind.f64.format.order (wordB s r) 0 = some (compare (sg s r) 0) := by
      show Ieee.double.order _ _ = _
      rw [hz, ord_rung s false h1 (Nat.zero_le _)]
      rfl
    have o3 : ∀ t : Bool, (FloatKind.f64.format.order (wordB t r) 9218868437227405311 == some .gt) = decide (t = false ∧ r = INF) := fun t => by
      show (Ieee.double.order _ _ == _) = _
      rw [hm, ord_rung t false h1 (by omega), cmp_beq, Bool.eq_iff_iff, decide_eq_true_eq, decide_eq_true_eq, compare_gt_iff]
      have := inf_val
      cases t <;> simp only [sg, Bool.false_eq_true, if_false, if_true, true_and, false_and, Bool.true_eq_false, iff_false] <;> omega
    refine step_core (wordB s r) (wordB (!s) r) u dir _ true _ _ _ w hd rfl hn o1 o2 (o3 s) (o3 (!s)) (fun _ => ?_) ?_ ?_
    · have := inf_val
      have h3 : r < 9223372036854775807 := by omega
      clear h1 this
      cases s <;> simp only [wordB, Bool.false_eq_true, if_false, if_true] <;> omega
    · by_cases h0 : r = 0
      · left; subst h0; cases s <;> rfl
      · right; right; cases s <;> simp only [wordB, Bool.false_eq_true, if_false, if_true] <;> omega
    · show _ = _
      rw [← hu]
      unfold stepW
      rw [if_pos rfl, if_neg (show ¬ INF < r by omega)]
      by_cases h0 : r = 0
      · subst h0
        rw [if_pos rfl, if_pos (by cases s <;> rfl)]
        cases decide (0 ≤ dir) <;> rfl
      · have hne : ¬ (some (compare (sg s r) 0) == some .eq) = true := by
          rw [cmp_beq, decide_eq_true_eq, compare_eq_iff]
          cases s <;> simp only [sg, Bool.false_eq_true, if_false, if_true] <;> omega
        have hgt : (some (compare (sg s r) 0) == some .gt) = !s := by
          rw [cmp_beq, Bool.eq_iff_iff, decide_eq_true_eq, compare_gt_iff]
          cases s <;> simp only [sg, Bool.false_eq_true, if_false, if_true, Bool.not_true, Bool.not_false, iff_true, iff_false] <;> omega
        rw [if_neg h0, if_neg hne, hgt]
        cases s <;> cases decide (0 ≤ dir) <;> by_cases hi : r = INF <;> simp [hi]
  · have o := fun x => ord_nan s (show INF < r by omega) h x
    refine step_core (wordB s r) (wordB (!s) r) u dir _ false false false none w hd rfl hn ?_ (o 0).1 ?_ ?_ (fun hc => by cases hc) (.inr (.inl rfl)) ?_
    · show (Ieee.double.order _ _ == _) = _
      rw [(o _).1]; rfl
    · show (Ieee.double.order _ _ == _) = _
      rw [(o _).1]; rfl
    · show (Ieee.double.order _ _ == _) = _
      rw [(ord_nan (!s) (show INF < r by omega) h _).1]; rfl
    · show _ = _
      rw [← hu]
      unfold stepW
      rw [if_pos (show INF < r by omega)]
      rfl
end Fl
end Go.Proofs.YtkibkmdgibemkaaDoor

/-
  Gaps by value at a door seat: Known, All, unknown, around.
-/
namespace Go.Proofs.YtkibkmdgibemkaaDoor
set_option linter.unusedSimpArgs false
open Go.RowKit

theorem run_store_float (P : Program) (w : World) (a : Addr) (k : FloatKind) (n : Nat) (m : Mode) : (store a (.float k n) m).run P w = stored P w a (.float k n) m := run_store P w a _ m rfl
namespace Fl
attribute [local go_sem] run_store_float
abbrev ord (x y : Nat) : Option Ordering := FloatKind.f64.format.order x y
def leB (x y : Nat) : Bool := ord x y == some .lt || ord x y == some .eq
def kn (lo hi : Nat) : Bool := finB lo && finB hi && leB lo hi
set_option maxHeartbeats 400000 in
theorem known_any (lo hi : Nat) (hlo : lo < 18446744073709551616) (hhi : hi < 18446744073709551616) (w : World) :
    Calls Tryd.prog 19 #[.agg #[.float .f64 lo, .float .f64 hi]] w fun e w' => e = .returned (.bool (kn lo hi)) ∧ Only [] w w' := by
  have Hlo := Lib.hid hlo
  have Hhi := Lib.hid hhi
  have ho := (Only.refl [] w).alloc (.cells #[.float .f64 lo, .float .f64 hi] 24)
  cases h1 : finB lo <;> cases h2 : finB hi
  all_goals
    go_enter Tryd.func19, Tryd.ntmps19
    go_wp2_with (go_at_call 7; (with_reducible refine (finite_any _ (by first | exact Hlo.out | exact Hhi.out) _).mono ?_); rintro e w' ⟨rfl, rfl⟩)
    all_goals go_ret
    all_goals exact ⟨by simp [kn, leB, ord, h1, h2], ho⟩

theorem only_new (w : World) (cs : List Value) (t : TypeId) : Only [] w (w.alloc (.cells cs.toArray t)) := (Only.refl [] w).alloc _

set_option maxHeartbeats 400000 in
theorem all_any (w : World) : Calls Tryd.prog 57 #[] w fun e w' => e = .returned (.agg #[.float .f64 18442240474082181120, .float .f64 9218868437227405312]) ∧ Only [] w w' := by
  go_enter Tryd.func57, Tryd.ntmps57
  go_wp2_with (go_at_call 81; first | ((with_reducible refine (infn_any _ _ (Lib.hid rfl)).mono ?_); rintro e w' ⟨rfl, rfl⟩) | ((with_reducible refine (infp_any _ _ (Lib.hid rfl)).mono ?_); rintro e w' ⟨rfl, rfl⟩))
  refine bodyPost_ret (v := .agg #[.float .f64 18442240474082181120, .float .f64 9218868437227405312]) (by simp [results, Tryd.results57, go_sem]) rfl ⟨rfl, only_new w [_, _] _⟩

theorem two_new (w : World) (a b : List Value) (t t' : TypeId) : Blk ((w.alloc (.cells a.toArray t)).alloc (.cells b.toArray t')) w.heap.size t a ∧ Blk ((w.alloc (.cells a.toArray t)).alloc (.cells b.toArray t')) (w.heap.size + 1) t' b ∧ Only [] w ((w.alloc (.cells a.toArray t)).alloc (.cells b.toArray t')) := by
  have e : (w.alloc (.cells a.toArray t)).heap.size = w.heap.size + 1 := World.size_alloc w _
  have h := Blk.new (w.alloc (.cells a.toArray t)) t' b
  rw [e] at h
  exact ⟨(Blk.new w t a).alloc _, h, (only_new w a t).alloc _⟩

theorem unknown_any (lo hi lo2 hi2 : Nat) (hlo : Hid (lo < 18446744073709551616)) (hhi : Hid (hi < 18446744073709551616)) (hlo2 : Hid (lo2 < 18446744073709551616)) (hhi2 : Hid (hi2 < 18446744073709551616)) (w : World) :
    Calls Tryd.prog 56 #[.agg #[.float .f64 lo, .float .f64 hi], .agg #[.float .f64 lo2, .float .f64 hi2]] w fun e w' => e = .returned (.bool (!(kn lo hi && kn lo2 hi2))) ∧ Only [] w w' := by
  obtain ⟨hB1, hB2, ho'⟩ := two_new w [.float .f64 lo, .float .f64 hi] [.float .f64 lo2, .float .f64 hi2] 24 24
  have ho := Lib.hid ho'
  clear ho' hB1
  cases hk : kn lo hi
  · go_enter Tryd.func56, Tryd.ntmps56
    go_wp2_with fail
    (with_reducible refine (known_any lo hi hlo.out hhi.out _).mono ?_)
    rw [hk]
    rintro e w' ⟨rfl, ho1⟩
    go_wp2_with fail
    go_ret
    exact ⟨by simp, ho.out.nil_trans ho1⟩
  · cases hk2 : kn lo2 hi2
    all_goals
      go_enter Tryd.func56, Tryd.ntmps56
      go_wp2_with fail
      (with_reducible refine (known_any lo hi hlo.out hhi.out _).mono ?_)
      rw [hk]
      rintro e w' ⟨rfl, ho1⟩
      have hC := hB2.only ho1 (by simp)
      have c0 := hC.cell 0
      have c1 := hC.cell 1
      simp only [List.getElem?_cons_zero, List.getElem?_cons_succ] at c0 c1
      have Ho1 := Lib.hid ho1
      clear ho1
      go_wp2_with fail
      (with_reducible refine (known_any lo2 hi2 hlo2.out hhi2.out _).mono ?_)
      rw [hk2]
      rintro e w'' ⟨rfl, ho2⟩
      go_wp2_with fail
      go_ret
      exact ⟨by simp, ho.out.nil_trans (Ho1.out.nil_trans ho2)⟩
end Fl
end Go.Proofs.YtkibkmdgibemkaaDoor

/-
  Gaps by value at a door seat: around, Add, Sub.
-/
namespace Go.Proofs.YtkibkmdgibemkaaDoor
set_option linter.unusedSimpArgs false
open Go.RowKit
namespace Fl
attribute [local go_sem] run_store_float

/-- What around tells. -/
def arW (lo hi : Nat) : Nat × Nat := if kn lo hi then (lo, hi) else (18442240474082181120, 9218868437227405312)

set_option maxHeartbeats 400000 in
theorem around_core (u1 u2 lo hi : Nat) (hS1 : ∀ w : World, Calls Tryd.prog 82 #[.float .f64 u1, .int .i64 (-1)] w fun e w' => e = .returned (.float .f64 lo) ∧ w = w') (hS2 : ∀ w : World, Calls Tryd.prog 82 #[.float .f64 u2, .int .i64 1] w fun e w' => e = .returned (.float .f64 hi) ∧ w = w') (hl : Hid (lo < 18446744073709551616)) (hh : Hid (hi < 18446744073709551616)) (w : World) : Calls Tryd.prog 58 #[.float .f64 u1, .float .f64 u2] w fun e w' => e = .returned (.agg #[.float .f64 (arW lo hi).1, .float .f64 (arW lo hi).2]) ∧ Only [] w w' := by
  obtain ⟨hB1, hB2, ho⟩ := two_new w [.float .f64 0, .float .f64 0] [.float .f64 lo, .float .f64 hi] 24 24
  cases hk : kn lo hi
  · go_enter Tryd.func58, Tryd.ntmps58
    go_wp2_with (first | (go_at_call 82; (with_reducible refine (hS1 _).mono ?_); rintro e w' ⟨rfl, rfl⟩) | (go_at_call 82; (with_reducible refine (hS2 _).mono ?_); rintro e w' ⟨rfl, rfl⟩) | (go_at_call 19; (with_reducible refine (known_any lo hi hl.out hh.out _).mono ?_); rw [hk]; rintro e w' ⟨rfl, ho1⟩; have c0 := (hB2.only ho1 (by simp)).cell 0; have c1 := (hB2.only ho1 (by simp)).cell 1; have B1 := hB1.only ho1 (by simp); have d0 := B1.cell 0; have d1 := B1.cell 1; have f0 := B1.frozen 0; have f1 := B1.frozen 1; simp only [List.getElem?_cons_zero, List.getElem?_cons_succ] at c0 c1 d0 d1) | (go_at_call 57; (with_reducible refine (all_any _).mono ?_); rintro e w2 ⟨rfl, ho2⟩; have B2 := B1.only ho2 (by simp); have d0 := B2.cell 0; have d1 := B2.cell 1; have f0 := B2.frozen 0; have f1 := B2.frozen 1; simp only [List.getElem?_cons_zero, List.getElem?_cons_succ] at d0 d1))
    refine bodyPost_ret (v := .agg #[.float .f64 18442240474082181120, .float .f64 9218868437227405312]) (by simp [results, Tryd.results58, go_sem, d0, d1]) rfl ⟨by simp [arW, hk], ?_⟩
    exact (((ho.nil_trans ho1).nil_trans ho2).setCell (.inr (Nat.le_refl _)) _).setCell (.inr (Nat.le_refl _)) _
  · go_enter Tryd.func58, Tryd.ntmps58
    go_wp2_with (first | (go_at_call 82; (with_reducible refine (hS1 _).mono ?_); rintro e w' ⟨rfl, rfl⟩) | (go_at_call 82; (with_reducible refine (hS2 _).mono ?_); rintro e w' ⟨rfl, rfl⟩) | (go_at_call 19; (with_reducible refine (known_any lo hi hl.out hh.out _).mono ?_); rw [hk]; rintro e w' ⟨rfl, ho1⟩; have c0 := (hB2.only ho1 (by simp)).cell 0; have c1 := (hB2.only ho1 (by simp)).cell 1; have B1 := hB1.only ho1 (by simp); have d0 := B1.cell 0; have d1 := B1.cell 1; have f0 := B1.frozen 0; have f1 := B1.frozen 1; simp only [List.getElem?_cons_zero, List.getElem?_cons_succ] at c0 c1 d0 d1) | (go_at_call 57; (with_reducible refine (all_any _).mono ?_); rintro e w2 ⟨rfl, ho2⟩; have B2 := B1.only ho2 (by simp); have d0 := B2.cell 0; have d1 := B2.cell 1; have f0 := B2.frozen 0; have f1 := B2.frozen 1; simp only [List.getElem?_cons_zero, List.getElem?_cons_succ] at d0 d1))
    refine bodyPost_ret (v := .agg #[.float .f64 lo, .float .f64 hi]) (by simp [results, Tryd.results58, go_sem, d0, d1]) rfl ⟨by simp [arW, hk], ?_⟩
    exact ((ho.nil_trans ho1).setCell (.inr (Nat.le_refl _)) _).setCell (.inr (Nat.le_refl _)) _
theorem around_any (s1 s2 : Bool) {r1 r2 lo hi : Nat} (h1 : r1 < 9223372036854775808) (h2 : r2 < 9223372036854775808) (e1 : stepW false s1 r1 = lo) (e2 : stepW true s2 r2 = hi) (hl : lo < 18446744073709551616) (hh : hi < 18446744073709551616) (w : World) : Calls Tryd.prog 58 #[.float .f64 (wordB s1 r1), .float .f64 (wordB s2 r2)] w fun e w' => e = .returned (.agg #[.float .f64 (arW lo hi).1, .float .f64 (arW lo hi).2]) ∧ Only [] w w' :=
  around_core _ _ lo hi (fun w => step_any s1 h1 (-1) lo (by rw [show decide ((0 : Int) ≤ -1) = false from rfl]; exact e1) w) (fun w => step_any s2 h2 1 hi (by rw [show decide ((0 : Int) ≤ 1) = true from rfl]; exact e2) w) (Lib.hid hl) (Lib.hid hh) w
end Fl
end Go.Proofs.YtkibkmdgibemkaaDoor

/-
  Gaps by value at a door seat: Add, Sub.
-/
namespace Go.Proofs.YtkibkmdgibemkaaDoor
set_option linter.unusedSimpArgs false
open Go.RowKit
namespace Fl
attribute [local go_sem] run_store_float

theorem three_new (w : World) (a b c : List Value) (t : TypeId) : Blk (((w.alloc (.cells a.toArray t)).alloc (.cells b.toArray t)).alloc (.cells c.toArray t)) w.heap.size t a ∧ Blk (((w.alloc (.cells a.toArray t)).alloc (.cells b.toArray t)).alloc (.cells c.toArray t)) (w.heap.size + 1) t b ∧
    Blk (((w.alloc (.cells a.toArray t)).alloc (.cells b.toArray t)).alloc (.cells c.toArray t)) (w.heap.size + 1 + 1) t c ∧ Only [] w (((w.alloc (.cells a.toArray t)).alloc (.cells b.toArray t)).alloc (.cells c.toArray t)) := by
  obtain ⟨h1, h2, h3⟩ := two_new w a b t t
  have e : ((w.alloc (.cells a.toArray t)).alloc (.cells b.toArray t)).heap.size = w.heap.size + 1 + 1 := by rw [World.size_alloc, World.size_alloc]
  have h := Blk.new ((w.alloc (.cells a.toArray t)).alloc (.cells b.toArray t)) t c
  rw [e] at h
  exact ⟨h1.alloc _, h2.alloc _, h, h3.alloc _⟩

/-- Three blocks of two floats each, in a world that is w but for new blocks. -/
structure Six (w w' : World) (a b c d e f : Nat) : Prop where
  ho : Only [] w w'
  b0 : Blk w' w.heap.size 24 [.float .f64 a, .float .f64 b]
  b1 : Blk w' (w.heap.size + 1) 24 [.float .f64 c, .float .f64 d]
  b2 : Blk w' (w.heap.size + 1 + 1) 24 [.float .f64 e, .float .f64 f]
theorem Six.only {w w' w'' : World} {a b c d e f : Nat} (h : Six w w' a b c d e f) (ho : Only [] w' w'') : Six w w'' a b c d e f := ⟨h.ho.nil_trans ho, h.b0.only ho (by simp), h.b1.only ho (by simp), h.b2.only ho (by simp)⟩
theorem Six.new (w : World) (a b c d e f : Nat) : Six w (((w.alloc (.cells #[.float .f64 a, .float .f64 b] 24)).alloc (.cells #[.float .f64 c, .float .f64 d] 24)).alloc (.cells #[.float .f64 e, .float .f64 f] 24)) a b c d e f := by
  obtain ⟨h1, h2, h3, h4⟩ := three_new w [.float .f64 a, .float .f64 b] [.float .f64 c, .float .f64 d] [.float .f64 e, .float .f64 f] 24
  exact ⟨h4, h1, h2, h3⟩

set_option maxHeartbeats 800000 in
theorem add_core (p1 p2 q1 q2 u1 u2 x y : Nat) (hp1 : Hid (p1 < 18446744073709551616)) (hp2 : Hid (p2 < 18446744073709551616)) (hq1 : Hid (q1 < 18446744073709551616)) (hq2 : Hid (q2 < 18446744073709551616)) (hk : (kn p1 p2 && kn q1 q2) = true) (h1 : floatBits .add .f64 p1 q1 = some u1) (h2 : floatBits .add .f64 p2 q2 = some u2) (hA : ∀ w : World, Calls Tryd.prog 58 #[.float .f64 u1, .float .f64 u2] w fun e w' => e = .returned (.agg #[.float .f64 x, .float .f64 y]) ∧ Only [] w w') (w : World) : Calls Tryd.prog 13 #[.agg #[.float .f64 p1, .float .f64 p2], .agg #[.float .f64 q1, .float .f64 q2]] w fun e w' => e = .returned (.agg #[.float .f64 x, .float .f64 y]) ∧ Only [] w w' := by
  have m1 : ∀ w : World, (binOp .add 22 (.float .f64 p1) (.float .f64 q1)).run Tryd.prog w = .ok (.float .f64 u1) w := fun w => run_float_arith w .add 22 .f64 _ _ _ h1
  have m2 : ∀ w : World, (binOp .add 22 (.float .f64 p2) (.float .f64 q2)).run Tryd.prog w = .ok (.float .f64 u2) w := fun w => run_float_arith w .add 22 .f64 _ _ _ h2
  have S0 := Lib.hid (Six.new w p1 p2 q1 q2 0 0)
  clear h1 h2
  go_enter Tryd.func13, Tryd.ntmps13
  go_wp2_with fail
  refine (unknown_any _ _ _ _ hp1 hp2 hq1 hq2 _).mono ?_
  rw [hk]
  rintro e w' ⟨rfl, ho1⟩
  have S1 := Lib.hid (S0.out.only ho1)
  clear ho1 S0
  have a0 := S1.out.b0.cell 0
  have a1 := S1.out.b0.cell 1
  have b0 := S1.out.b1.cell 0
  have b1 := S1.out.b1.cell 1
  have c0 := S1.out.b2.cell 0
  have c1 := S1.out.b2.cell 1
  have f0 := S1.out.b2.frozen 0
  have f1 := S1.out.b2.frozen 1
  simp only [List.getElem?_cons_zero, List.getElem?_cons_succ] at a0 a1 b0 b1 c0 c1
  go_wp2_with fail
  refine (hA _).mono ?_
  rintro e w2 ⟨rfl, ho2⟩
  have S2 := Lib.hid (S1.out.only ho2)
  clear a0 a1 b0 b1 c0 c1 f0 f1 S1 ho2 m1 m2
  have a0 := S2.out.b0.cell 0
  have a1 := S2.out.b0.cell 1
  have b0 := S2.out.b1.cell 0
  have b1 := S2.out.b1.cell 1
  have c0 := S2.out.b2.cell 0
  have c1 := S2.out.b2.cell 1
  have f0 := S2.out.b2.frozen 0
  have f1 := S2.out.b2.frozen 1
  simp only [List.getElem?_cons_zero, List.getElem?_cons_succ] at a0 a1 b0 b1 c0 c1
  go_wp2_with fail
  refine bodyPost_ret (v := .agg #[.float .f64 x, .float .f64 y]) (by simp [results, Tryd.results13, go_sem, c0, c1]) rfl ⟨rfl, ?_⟩
  have ho := S2.out.ho
  exact (ho.setCell (.inr (by show w.heap.size ≤ w.heap.size + 1 + 1; omega)) _).setCell (.inr (by show w.heap.size ≤ w.heap.size + 1 + 1; omega)) _

set_option maxHeartbeats 800000 in
theorem sub_core (p1 p2 q1 q2 u1 u2 x y : Nat) (hp1 : Hid (p1 < 18446744073709551616)) (hp2 : Hid (p2 < 18446744073709551616)) (hq1 : Hid (q1 < 18446744073709551616)) (hq2 : Hid (q2 < 18446744073709551616)) (hk : (kn p1 p2 && kn q1 q2) = true) (h1 : floatBits .sub .f64 p1 q2 = some u1) (h2 : floatBits .sub .f64 p2 q1 = some u2) (hA : ∀ w : World, Calls Tryd.prog 58 #[.float .f64 u1, .float .f64 u2] w fun e w' => e = .returned (.agg #[.float .f64 x, .float .f64 y]) ∧ Only [] w w') (w : World) : Calls Tryd.prog 15 #[.agg #[.float .f64 p1, .float .f64 p2], .agg #[.float .f64 q1, .float .f64 q2]] w fun e w' => e = .returned (.agg #[.float .f64 x, .float .f64 y]) ∧ Only [] w w' := by
  have m1 : ∀ w : World, (binOp .sub 22 (.float .f64 p1) (.float .f64 q2)).run Tryd.prog w = .ok (.float .f64 u1) w := fun w => run_float_arith w .sub 22 .f64 _ _ _ h1
  have m2 : ∀ w : World, (binOp .sub 22 (.float .f64 p2) (.float .f64 q1)).run Tryd.prog w = .ok (.float .f64 u2) w := fun w => run_float_arith w .sub 22 .f64 _ _ _ h2
  have S0 := Lib.hid (Six.new w p1 p2 q1 q2 0 0)
  clear h1 h2
  go_enter Tryd.func15, Tryd.ntmps15
  go_wp2_with fail
  refine (unknown_any _ _ _ _ hp1 hp2 hq1 hq2 _).mono ?_
  rw [hk]
  rintro e w' ⟨rfl, ho1⟩
  have S1 := Lib.hid (S0.out.only ho1)
  clear ho1 S0
  have a0 := S1.out.b0.cell 0
  have a1 := S1.out.b0.cell 1
  have b0 := S1.out.b1.cell 0
  have b1 := S1.out.b1.cell 1
  have c0 := S1.out.b2.cell 0
  have c1 := S1.out.b2.cell 1
  have f0 := S1.out.b2.frozen 0
  have f1 := S1.out.b2.frozen 1
  simp only [List.getElem?_cons_zero, List.getElem?_cons_succ] at a0 a1 b0 b1 c0 c1
  go_wp2_with fail
  refine (hA _).mono ?_
  rintro e w2 ⟨rfl, ho2⟩
  have S2 := Lib.hid (S1.out.only ho2)
  clear a0 a1 b0 b1 c0 c1 f0 f1 S1 ho2 m1 m2
  have a0 := S2.out.b0.cell 0
  have a1 := S2.out.b0.cell 1
  have b0 := S2.out.b1.cell 0
  have b1 := S2.out.b1.cell 1
  have c0 := S2.out.b2.cell 0
  have c1 := S2.out.b2.cell 1
  have f0 := S2.out.b2.frozen 0
  have f1 := S2.out.b2.frozen 1
  simp only [List.getElem?_cons_zero, List.getElem?_cons_succ] at a0 a1 b0 b1 c0 c1
  go_wp2_with fail
  refine bodyPost_ret (v := .agg #[.float .f64 x, .float .f64 y]) (by simp [results, Tryd.results15, go_sem, c0, c1]) rfl ⟨rfl, ?_⟩
  have ho := S2.out.ho
  exact (ho.setCell (.inr (by show w.heap.size ≤ w.heap.size + 1 + 1; omega)) _).setCell (.inr (by show w.heap.size ≤ w.heap.size + 1 + 1; omega)) _
end Fl
end Go.Proofs.YtkibkmdgibemkaaDoor

/-
  Gaps by value at a door seat: Mul, Quo.
-/
namespace Go.Proofs.YtkibkmdgibemkaaDoor
set_option linter.unusedSimpArgs false
open Go.RowKit
namespace Fl
attribute [local go_sem] run_store_float

set_option maxHeartbeats 1600000 in
theorem mul_core (p1 p2 q1 q2 u1 u2 u3 u4 lo hi x y : Nat) (hp1 : Hid (p1 < 18446744073709551616)) (hp2 : Hid (p2 < 18446744073709551616)) (hq1 : Hid (q1 < 18446744073709551616)) (hq2 : Hid (q2 < 18446744073709551616)) (hk : (kn p1 p2 && kn q1 q2) = true) (h1 : floatBits .mul .f64 p1 q1 = some u1) (h2 : floatBits .mul .f64 p1 q2 = some u2) (h3 : floatBits .mul .f64 p2 q1 = some u3) (h4 : floatBits .mul .f64 p2 q2 = some u4)
    (hmin : ∀ w : World, (Builtin.min_ #[22, 22, 22, 22] 22 #[.float .f64 u1, .float .f64 u2, .float .f64 u3, .float .f64 u4]).run Tryd.prog w = .ok (.float .f64 lo) w) (hmax : ∀ w : World, (Builtin.max_ #[22, 22, 22, 22] 22 #[.float .f64 u1, .float .f64 u2, .float .f64 u3, .float .f64 u4]).run Tryd.prog w = .ok (.float .f64 hi) w)
    (hA : ∀ w : World, Calls Tryd.prog 58 #[.float .f64 lo, .float .f64 hi] w fun e w' => e = .returned (.agg #[.float .f64 x, .float .f64 y]) ∧ Only [] w w') (w : World) : Calls Tryd.prog 16 #[.agg #[.float .f64 p1, .float .f64 p2], .agg #[.float .f64 q1, .float .f64 q2]] w fun e w' => e = .returned (.agg #[.float .f64 x, .float .f64 y]) ∧ Only [] w w' := by
  have m1 : ∀ w : World, (binOp .mul 22 (.float .f64 p1) (.float .f64 q1)).run Tryd.prog w = .ok (.float .f64 u1) w := fun w => run_float_arith w .mul 22 .f64 _ _ _ h1
  have m2 : ∀ w : World, (binOp .mul 22 (.float .f64 p1) (.float .f64 q2)).run Tryd.prog w = .ok (.float .f64 u2) w := fun w => run_float_arith w .mul 22 .f64 _ _ _ h2
  have m3 : ∀ w : World, (binOp .mul 22 (.float .f64 p2) (.float .f64 q1)).run Tryd.prog w = .ok (.float .f64 u3) w := fun w => run_float_arith w .mul 22 .f64 _ _ _ h3
  have m4 : ∀ w : World, (binOp .mul 22 (.float .f64 p2) (.float .f64 q2)).run Tryd.prog w = .ok (.float .f64 u4) w := fun w => run_float_arith w .mul 22 .f64 _ _ _ h4
  have S0 := Lib.hid (Six.new w p1 p2 q1 q2 0 0)
  clear h1 h2 h3 h4
  go_enter Tryd.func16, Tryd.ntmps16
  go_wp2_with fail
  refine (unknown_any _ _ _ _ hp1 hp2 hq1 hq2 _).mono ?_
  rw [hk]
  rintro e w' ⟨rfl, ho1⟩
  have S1 := Lib.hid (S0.out.only ho1)
  clear ho1 S0
  have a0 := S1.out.b0.cell 0
  have a1 := S1.out.b0.cell 1
  have b0 := S1.out.b1.cell 0
  have b1 := S1.out.b1.cell 1
  have c0 := S1.out.b2.cell 0
  have c1 := S1.out.b2.cell 1
  have f0 := S1.out.b2.frozen 0
  have f1 := S1.out.b2.frozen 1
  simp only [List.getElem?_cons_zero, List.getElem?_cons_succ] at a0 a1 b0 b1 c0 c1
  go_wp2_with fail
  go_quiet (fail)
  go_wp2_with fail
  refine (hA _).mono ?_
  rintro e w2 ⟨rfl, ho2⟩
  have S2 := Lib.hid (S1.out.only ((Only.refl _ _).drewN _ |>.nil_trans ho2))
  clear a0 a1 b0 b1 c0 c1 f0 f1 S1 ho2 hmin hmax m1 m2 m3 m4
  have a0 := S2.out.b0.cell 0
  have a1 := S2.out.b0.cell 1
  have b0 := S2.out.b1.cell 0
  have b1 := S2.out.b1.cell 1
  have c0 := S2.out.b2.cell 0
  have c1 := S2.out.b2.cell 1
  have f0 := S2.out.b2.frozen 0
  have f1 := S2.out.b2.frozen 1
  simp only [List.getElem?_cons_zero, List.getElem?_cons_succ] at a0 a1 b0 b1 c0 c1
  go_wp2_with fail
  refine bodyPost_ret (v := .agg #[.float .f64 x, .float .f64 y]) (by simp [results, Tryd.results16, go_sem, c0, c1]) rfl ⟨rfl, ?_⟩
  have ho := S2.out.ho
  exact (ho.setCell (.inr (by show w.heap.size ≤ w.heap.size + 1 + 1; omega)) _).setCell (.inr (by show w.heap.size ≤ w.heap.size + 1 + 1; omega)) _

set_option maxHeartbeats 1600000 in
theorem quo_core (z1 z2 : Bool) (p1 p2 q1 q2 u1 u2 u3 u4 lo hi x y : Nat) (hp1 : Hid (p1 < 18446744073709551616)) (hp2 : Hid (p2 < 18446744073709551616)) (hq1 : Hid (q1 < 18446744073709551616)) (hq2 : Hid (q2 < 18446744073709551616)) (hk : (kn p1 p2 && kn q1 q2) = true) (g1 : (FloatKind.f64.format.order q1 0 == some .lt || FloatKind.f64.format.order q1 0 == some .eq) = z1) (g2 : (FloatKind.f64.format.order q2 0 == some .gt || FloatKind.f64.format.order q2 0 == some .eq) = z2) (hz : (z1 && z2) = false) (h1 : floatBits .quo .f64 p1 q1 = some u1) (h2 : floatBits .quo .f64 p1 q2 = some u2) (h3 : floatBits .quo .f64 p2 q1 = some u3) (h4 : floatBits .quo .f64 p2 q2 = some u4)
    (hmin : ∀ w : World, (Builtin.min_ #[22, 22, 22, 22] 22 #[.float .f64 u1, .float .f64 u2, .float .f64 u3, .float .f64 u4]).run Tryd.prog w = .ok (.float .f64 lo) w) (hmax : ∀ w : World, (Builtin.max_ #[22, 22, 22, 22] 22 #[.float .f64 u1, .float .f64 u2, .float .f64 u3, .float .f64 u4]).run Tryd.prog w = .ok (.float .f64 hi) w)
    (hA : ∀ w : World, Calls Tryd.prog 58 #[.float .f64 lo, .float .f64 hi] w fun e w' => e = .returned (.agg #[.float .f64 x, .float .f64 y]) ∧ Only [] w w') (w : World) : Calls Tryd.prog 17 #[.agg #[.float .f64 p1, .float .f64 p2], .agg #[.float .f64 q1, .float .f64 q2]] w fun e w' => e = .returned (.agg #[.float .f64 x, .float .f64 y]) ∧ Only [] w w' := by
  have m1 : ∀ w : World, (binOp .quo 22 (.float .f64 p1) (.float .f64 q1)).run Tryd.prog w = .ok (.float .f64 u1) w := fun w => run_float_arith w .quo 22 .f64 _ _ _ h1
  have m2 : ∀ w : World, (binOp .quo 22 (.float .f64 p1) (.float .f64 q2)).run Tryd.prog w = .ok (.float .f64 u2) w := fun w => run_float_arith w .quo 22 .f64 _ _ _ h2
  have m3 : ∀ w : World, (binOp .quo 22 (.float .f64 p2) (.float .f64 q1)).run Tryd.prog w = .ok (.float .f64 u3) w := fun w => run_float_arith w .quo 22 .f64 _ _ _ h3
  have m4 : ∀ w : World, (binOp .quo 22 (.float .f64 p2) (.float .f64 q2)).run Tryd.prog w = .ok (.float .f64 u4) w := fun w => run_float_arith w .quo 22 .f64 _ _ _ h4
  have S0 := Lib.hid (Six.new w p1 p2 q1 q2 0 0)
  clear h1 h2 h3 h4
  cases z1 <;> cases z2 <;> simp only [Bool.and_true, Bool.and_false, Bool.true_eq_false] at hz
  all_goals
    go_enter Tryd.func17, Tryd.ntmps17
    go_wp2_with fail
    refine (unknown_any _ _ _ _ hp1 hp2 hq1 hq2 _).mono ?_
    rw [hk]
    rintro e w' ⟨rfl, ho1⟩
    have S1 := Lib.hid (S0.out.only ho1)
    clear ho1 S0
    have a0 := S1.out.b0.cell 0
    have a1 := S1.out.b0.cell 1
    have b0 := S1.out.b1.cell 0
    have b1 := S1.out.b1.cell 1
    have c0 := S1.out.b2.cell 0
    have c1 := S1.out.b2.cell 1
    have f0 := S1.out.b2.frozen 0
    have f1 := S1.out.b2.frozen 1
    simp only [List.getElem?_cons_zero, List.getElem?_cons_succ] at a0 a1 b0 b1 c0 c1
    go_wp2_with fail
    go_quiet (fail)
    go_wp2_with fail
    refine (hA _).mono ?_
    rintro e w2 ⟨rfl, ho2⟩
    have S2 := Lib.hid (S1.out.only ((Only.refl _ _).drewN _ |>.nil_trans ho2))
    clear a0 a1 b0 b1 c0 c1 f0 f1 S1 ho2 hmin hmax m1 m2 m3 m4
    have a0 := S2.out.b0.cell 0
    have a1 := S2.out.b0.cell 1
    have b0 := S2.out.b1.cell 0
    have b1 := S2.out.b1.cell 1
    have c0 := S2.out.b2.cell 0
    have c1 := S2.out.b2.cell 1
    have f0 := S2.out.b2.frozen 0
    have f1 := S2.out.b2.frozen 1
    simp only [List.getElem?_cons_zero, List.getElem?_cons_succ] at a0 a1 b0 b1 c0 c1
    go_wp2_with fail
    refine bodyPost_ret (v := .agg #[.float .f64 x, .float .f64 y]) (by simp [results, Tryd.results17, go_sem, c0, c1]) rfl ⟨rfl, ?_⟩
    have ho := S2.out.ho
    exact (ho.setCell (.inr (by show w.heap.size ≤ w.heap.size + 1 + 1; omega)) _).setCell (.inr (by show w.heap.size ≤ w.heap.size + 1 + 1; omega)) _
end Fl
end Go.Proofs.YtkibkmdgibemkaaDoor

/-
  Gaps by value at a door seat: At, Sign, quotients over zero, Sqrt.
-/
namespace Go.Proofs.YtkibkmdgibemkaaDoor
set_option linter.unusedSimpArgs false
open Go.RowKit
namespace Fl
attribute [local go_sem] run_store_float

theorem at_yes (v : Nat) (Hv : Hid (v < 18446744073709551616)) (h1 : finB v = true) (w : World) : Calls Tryd.prog 45 #[.float .f64 v] w fun e w' => e = .returned (.agg #[.float .f64 v, .float .f64 v]) ∧ Only [] w w' := by
  go_enter Tryd.func45, Tryd.ntmps45
  go_wp2_with (first | (go_at_call 7; (with_reducible refine (finite_any _ Hv.out _).mono ?_); rintro e w' ⟨rfl, rfl⟩))
  refine bodyPost_ret (v := .agg #[.float .f64 v, .float .f64 v]) (by simp [results, Tryd.results45, go_sem]) rfl ⟨rfl, only_new w [_, _] _⟩

set_option maxHeartbeats 400000 in
theorem quo_zero (p1 p2 q1 q2 : Nat) (hp1 : Hid (p1 < 18446744073709551616)) (hp2 : Hid (p2 < 18446744073709551616)) (hq1 : Hid (q1 < 18446744073709551616)) (hq2 : Hid (q2 < 18446744073709551616)) (hk : (kn p1 p2 && kn q1 q2) = true) (g1 : (FloatKind.f64.format.order q1 0 == some .lt || FloatKind.f64.format.order q1 0 == some .eq) = true) (g2 : (FloatKind.f64.format.order q2 0 == some .gt || FloatKind.f64.format.order q2 0 == some .eq) = true) (w : World) : Calls Tryd.prog 17 #[.agg #[.float .f64 p1, .float .f64 p2], .agg #[.float .f64 q1, .float .f64 q2]] w fun e w' => e = .returned (.agg #[.float .f64 18442240474082181120, .float .f64 9218868437227405312]) ∧ Only [] w w' := by
  have S0 := Lib.hid (Six.new w p1 p2 q1 q2 0 0)
  go_enter Tryd.func17, Tryd.ntmps17
  go_wp2_with fail
  refine (unknown_any _ _ _ _ hp1 hp2 hq1 hq2 _).mono ?_
  rw [hk]
  rintro e w' ⟨rfl, ho1⟩
  have S1 := Lib.hid (S0.out.only ho1)
  clear ho1 S0
  have a0 := S1.out.b0.cell 0
  have a1 := S1.out.b0.cell 1
  have b0 := S1.out.b1.cell 0
  have b1 := S1.out.b1.cell 1
  have c0 := S1.out.b2.cell 0
  have c1 := S1.out.b2.cell 1
  have f0 := S1.out.b2.frozen 0
  have f1 := S1.out.b2.frozen 1
  simp only [List.getElem?_cons_zero, List.getElem?_cons_succ] at a0 a1 b0 b1 c0 c1
  go_wp2_with fail
  refine (all_any _).mono ?_
  rintro e w2 ⟨rfl, ho2⟩
  have S2 := Lib.hid (S1.out.only ho2)
  clear a0 a1 b0 b1 c0 c1 f0 f1 S1 ho2
  have a0 := S2.out.b0.cell 0
  have a1 := S2.out.b0.cell 1
  have b0 := S2.out.b1.cell 0
  have b1 := S2.out.b1.cell 1
  have c0 := S2.out.b2.cell 0
  have c1 := S2.out.b2.cell 1
  have f0 := S2.out.b2.frozen 0
  have f1 := S2.out.b2.frozen 1
  simp only [List.getElem?_cons_zero, List.getElem?_cons_succ] at a0 a1 b0 b1 c0 c1
  go_wp2_with fail
  refine bodyPost_ret (v := .agg #[.float .f64 18442240474082181120, .float .f64 9218868437227405312]) (by simp [results, Tryd.results17, go_sem, c0, c1]) rfl ⟨rfl, ?_⟩
  have ho := S2.out.ho
  exact (ho.setCell (.inr (by show w.heap.size ≤ w.heap.size + 1 + 1; omega)) _).setCell (.inr (by show w.heap.size ≤ w.heap.size + 1 + 1; omega)) _

theorem msqrt_run (v u : Nat) (h : FloatKind.f64.format.sqrt v = some u) (w : World) : (callFunc 87 #[.float .f64 v]).run Tryd.prog w = .ok (.value (.float .f64 u)) w := by
  have e : (callFunc 87 #[.float .f64 v]).run Tryd.prog w = ((do let r ← Extern.MathSqrt.sqrt #[.float .f64 v]; pure (.value r)) : Sem _).run Tryd.prog w := by kernel_rfl
  have e2 : Extern.MathSqrt.sqrt #[.float .f64 v] = (match FloatKind.f64.format.sqrt v with | some r => pure (.float .f64 r) | none => do pure (.float .f64 (← choose (.nanBits .f64 v v)))) := rfl
  rw [e, e2, h]
  rfl
theorem msqrt_any (v u : Nat) (h : FloatKind.f64.format.sqrt v = some u) (w : World) : Calls Tryd.prog 66 #[.float .f64 v] w fun e w' => e = .returned (.float .f64 u) ∧ w = w' := by
  have hr := msqrt_run v u h
  go_enter Tryd.func66, Tryd.ntmps66
  go_wp2_with fail
  go_ret
  exact ⟨rfl, rfl⟩
end Fl
end Go.Proofs.YtkibkmdgibemkaaDoor

/-
  Gaps by value at a door seat: Sqrt.
-/
namespace Go.Proofs.YtkibkmdgibemkaaDoor
set_option linter.unusedSimpArgs false
open Go.RowKit
namespace Fl
attribute [local go_sem] run_store_float
/-- Two blocks of two floats each, in a world that is w but for new blocks. -/
structure Four (w w' : World) (a b c d : Nat) : Prop where
  ho : Only [] w w'
  b0 : Blk w' w.heap.size 24 [.float .f64 a, .float .f64 b]
  b1 : Blk w' (w.heap.size + 1) 24 [.float .f64 c, .float .f64 d]
theorem Four.only {w w' w'' : World} {a b c d : Nat} (h : Four w w' a b c d) (ho : Only [] w' w'') : Four w w'' a b c d := ⟨h.ho.nil_trans ho, h.b0.only ho (by simp), h.b1.only ho (by simp)⟩
theorem Four.new (w : World) (a b c d : Nat) : Four w ((w.alloc (.cells #[.float .f64 a, .float .f64 b] 24)).alloc (.cells #[.float .f64 c, .float .f64 d] 24)) a b c d := by
  obtain ⟨h1, h2, h4⟩ := two_new w [.float .f64 a, .float .f64 b] [.float .f64 c, .float .f64 d] 24 24
  exact ⟨h4, h1, h2⟩

set_option maxHeartbeats 400000 in
theorem gsqrt_neg (p1 p2 : Nat) (hp1 : Hid (p1 < 18446744073709551616)) (hp2 : Hid (p2 < 18446744073709551616)) (hk : kn p1 p2 = true) (g1 : (FloatKind.f64.format.order p1 0 == some .lt) = true) (w : World) : Calls Tryd.prog 22 #[.agg #[.float .f64 p1, .float .f64 p2]] w fun e w' => e = .returned (.agg #[.float .f64 18442240474082181120, .float .f64 9218868437227405312]) ∧ Only [] w w' := by
  have S0 := Lib.hid (Four.new w p1 p2 0 0)
  go_enter Tryd.func22, Tryd.ntmps22
  go_wp2_with fail
  refine (known_any _ _ hp1.out hp2.out _).mono ?_
  rw [hk]
  rintro e w' ⟨rfl, ho1⟩
  have S1 := Lib.hid (S0.out.only ho1)
  clear ho1 S0
  have a0 := S1.out.b0.cell 0
  have a1 := S1.out.b0.cell 1
  have b0 := S1.out.b1.cell 0
  have b1 := S1.out.b1.cell 1
  have f0 := S1.out.b1.frozen 0
  have f1 := S1.out.b1.frozen 1
  simp only [List.getElem?_cons_zero, List.getElem?_cons_succ] at a0 a1 b0 b1
  go_wp2_with fail
  refine (all_any _).mono ?_
  rintro e w2 ⟨rfl, ho2⟩
  have S2 := Lib.hid (S1.out.only ho2)
  clear a0 a1 b0 b1 f0 f1 S1 ho2
  have a0 := S2.out.b0.cell 0
  have a1 := S2.out.b0.cell 1
  have b0 := S2.out.b1.cell 0
  have b1 := S2.out.b1.cell 1
  have f0 := S2.out.b1.frozen 0
  have f1 := S2.out.b1.frozen 1
  simp only [List.getElem?_cons_zero, List.getElem?_cons_succ] at a0 a1 b0 b1
  go_wp2_with fail
  refine bodyPost_ret (v := .agg #[.float .f64 18442240474082181120, .float .f64 9218868437227405312]) (by simp [results, Tryd.results22, go_sem, b0, b1]) rfl ⟨rfl, ?_⟩
  have ho := S2.out.ho
  exact (ho.setCell (.inr (by show w.heap.size ≤ w.heap.size + 1; omega)) _).setCell (.inr (by show w.heap.size ≤ w.heap.size + 1; omega)) _

set_option maxHeartbeats 800000 in
theorem gsqrt_core (p1 p2 u1 u2 x y : Nat) (hp1 : Hid (p1 < 18446744073709551616)) (hp2 : Hid (p2 < 18446744073709551616)) (hk : kn p1 p2 = true) (g1 : (FloatKind.f64.format.order p1 0 == some .lt) = false) (h1 : FloatKind.f64.format.sqrt p1 = some u1) (h2 : FloatKind.f64.format.sqrt p2 = some u2) (hA : ∀ w : World, Calls Tryd.prog 58 #[.float .f64 u1, .float .f64 u2] w fun e w' => e = .returned (.agg #[.float .f64 x, .float .f64 y]) ∧ Only [] w w') (w : World) : Calls Tryd.prog 22 #[.agg #[.float .f64 p1, .float .f64 p2]] w fun e w' => e = .returned (.agg #[.float .f64 x, .float .f64 y]) ∧ Only [] w w' := by
  have S0 := Lib.hid (Four.new w p1 p2 0 0)
  have R1 : ∀ w : World, Calls Tryd.prog 66 #[.float .f64 p1] w fun e w' => e = .returned (.float .f64 u1) ∧ w' = w := fun w => (msqrt_any p1 u1 h1 w).mono fun _ _ h => ⟨h.1, h.2.symm⟩
  have R2 : ∀ w : World, Calls Tryd.prog 66 #[.float .f64 p2] w fun e w' => e = .returned (.float .f64 u2) ∧ w' = w := fun w => (msqrt_any p2 u2 h2 w).mono fun _ _ h => ⟨h.1, h.2.symm⟩
  clear h1 h2
  go_enter Tryd.func22, Tryd.ntmps22
  go_wp2_with fail
  refine (known_any _ _ hp1.out hp2.out _).mono ?_
  rw [hk]
  rintro e w' ⟨rfl, ho1⟩
  have S1 := Lib.hid (S0.out.only ho1)
  clear ho1 S0
  have a0 := S1.out.b0.cell 0
  have a1 := S1.out.b0.cell 1
  have b0 := S1.out.b1.cell 0
  have b1 := S1.out.b1.cell 1
  have f0 := S1.out.b1.frozen 0
  have f1 := S1.out.b1.frozen 1
  simp only [List.getElem?_cons_zero, List.getElem?_cons_succ] at a0 a1 b0 b1
  go_wp2_with fail
  go_region_held3 (fun w' => w'.cell? ⟨w.heap.size, 0, none⟩ = some (.float .f64 p1) ∧ w'.cell? ⟨w.heap.size, 1, none⟩ = some (.float .f64 p2)) (go_keep) (first
    | (go_at_call 66; (with_reducible refine (R1 _).mono ?_); rintro e w3 ⟨rfl, rfl⟩)
    | (go_at_call 66; (with_reducible refine (R2 _).mono ?_); rintro e w3 ⟨rfl, rfl⟩)
    | (go_at_call 58; (with_reducible refine (hA _).mono ?_); rintro e w2 ⟨rfl, ho2⟩; have S2 := Lib.hid (S1.out.only ((Only.refl _ _).drewN _ |>.nil_trans ho2)); clear a0 a1 b0 b1 f0 f1 S1 ho2; have a0 := S2.out.b0.cell 0; have a1 := S2.out.b0.cell 1; have b0 := S2.out.b1.cell 0; have b1 := S2.out.b1.cell 1; have f0 := S2.out.b1.frozen 0; have f1 := S2.out.b1.frozen 1; simp only [List.getElem?_cons_zero, List.getElem?_cons_succ] at a0 a1 b0 b1))
  go_wp2_with fail
  refine bodyPost_ret (v := .agg #[.float .f64 x, .float .f64 y]) (by simp [results, Tryd.results22, go_sem, b0, b1]) rfl ⟨rfl, ?_⟩
  have ho := S2.out.ho
  exact (ho.setCell (.inr (by show w.heap.size ≤ w.heap.size + 1; omega)) _).setCell (.inr (by show w.heap.size ≤ w.heap.size + 1; omega)) _
end Fl
end Go.Proofs.YtkibkmdgibemkaaDoor

/-
  Gaps by value at a door seat: Sign; products and quotients of constants; alive.
-/
namespace Go.Proofs.YtkibkmdgibemkaaDoor
set_option linter.unusedSimpArgs false
open Go.RowKit
namespace Fl
attribute [local go_sem] run_store_float

set_option maxHeartbeats 400000 in
theorem sign_any (lo hi : Nat) (hlo : lo < 18446744073709551616) (hhi : hi < 18446744073709551616) (w : World) (hk : kn lo hi = true) :
    Calls Tryd.prog 46 #[.agg #[.float .f64 lo, .float .f64 hi]] w fun e w' => e = .returned (.tuple #[.int .i64 (if ord lo 0 = some .gt then 1 else if ord hi 0 = some .lt then -1 else 0), .bool (if ord lo 0 = some .gt then true else if ord hi 0 = some .lt then true else ord lo 0 == some .eq && ord hi 0 == some .eq)]) ∧ Only [] w w' := by
  have Hk := Lib.hid hk
  have Hlo := Lib.hid hlo
  have Hhi := Lib.hid hhi
  have ho := (Only.refl [] w).alloc (.cells #[.float .f64 lo, .float .f64 hi] 24)
  have hB := Blk.new w 24 [.float .f64 lo, .float .f64 hi]
  generalize hg : ord lo 0 = a
  generalize hg2 : ord hi 0 = b
  have hg' : FloatKind.f64.format.order lo 0 = a := hg
  have hg2' : FloatKind.f64.format.order hi 0 = b := hg2
  clear hg hg2 hk hlo hhi ho
  have Ho := Lib.hid ((Only.refl [] w).alloc (.cells #[.float .f64 lo, .float .f64 hi] 24))
  by_cases g1 : a = some .gt
  · subst g1
    go_enter Tryd.func46, Tryd.ntmps46
    go_wp2_with (go_at_call 19; (with_reducible refine (known_any _ _ Hlo.out Hhi.out _).mono ?_); rw [Hk.out]; rintro e w' ⟨rfl, ho1⟩; have hB1 := hB.only ho1 (by simp); have c0 := hB1.cell 0; have c1 := hB1.cell 1; simp only [List.getElem?_cons_zero, List.getElem?_cons_succ] at c0 c1)
    go_ret2
    exact ⟨by simp, Ho.out.nil_trans ho1⟩
  · have g1' : (a == some .gt) = false := by simpa using g1
    by_cases g2 : b = some .lt
    · subst g2
      go_enter Tryd.func46, Tryd.ntmps46
      go_wp2_with (go_at_call 19; (with_reducible refine (known_any _ _ Hlo.out Hhi.out _).mono ?_); rw [Hk.out]; rintro e w' ⟨rfl, ho1⟩; have hB1 := hB.only ho1 (by simp); have c0 := hB1.cell 0; have c1 := hB1.cell 1; simp only [List.getElem?_cons_zero, List.getElem?_cons_succ] at c0 c1)
      go_ret2
      exact ⟨by simp [g1], Ho.out.nil_trans ho1⟩
    · have g2' : (b == some .lt) = false := by simpa using g2
      cases g3 : a == some .eq
      all_goals
        go_enter Tryd.func46, Tryd.ntmps46
        go_wp2_with (go_at_call 19; (with_reducible refine (known_any _ _ Hlo.out Hhi.out _).mono ?_); rw [Hk.out]; rintro e w' ⟨rfl, ho1⟩; have hB1 := hB.only ho1 (by simp); have c0 := hB1.cell 0; have c1 := hB1.cell 1; simp only [List.getElem?_cons_zero, List.getElem?_cons_succ] at c0 c1)
        go_quiet (fail)
        go_wp2_with fail
        go_ret2
        exact ⟨by simp [g1, g2, g3], (Ho.out.nil_trans ho1).drewN _⟩

theorem lt64 (v : Nat) (h : decide (v < 18446744073709551616) = true) : Hid (v < 18446744073709551616) := Lib.hid (of_decide_eq_true h)

theorem around_6 (w : World) : Calls Tryd.prog 58 #[.float .f64 4618441417868443648, .float .f64 4618441417868443648] w fun e w' => e = .returned (.agg #[.float .f64 4618441417868443647, .float .f64 4618441417868443649]) ∧ Only [] w w' := by
  have h := around_any false false (r1 := 4618441417868443648) (r2 := 4618441417868443648) (lo := 4618441417868443647) (hi := 4618441417868443649) (by omega) (by omega) (by kernel_rfl) (by kernel_rfl) (by omega) (by omega) w
  rw [show arW 4618441417868443647 4618441417868443649 = (4618441417868443647, 4618441417868443649) by kernel_rfl] at h
  exact h

theorem mul_23 (w : World) : Calls Tryd.prog 16 #[.agg #[.float .f64 4611686018427387904, .float .f64 4611686018427387904], .agg #[.float .f64 4613937818241073152, .float .f64 4613937818241073152]] w fun e w' => e = .returned (.agg #[.float .f64 4618441417868443647, .float .f64 4618441417868443649]) ∧ Only [] w w' :=
  mul_core _ _ _ _ 4618441417868443648 4618441417868443648 4618441417868443648 4618441417868443648 4618441417868443648 4618441417868443648 _ _ (lt64 _ rfl) (lt64 _ rfl) (lt64 _ rfl) (lt64 _ rfl) (by kernel_rfl) (by kernel_rfl) (by kernel_rfl) (by kernel_rfl) (by kernel_rfl) (fun w => by kernel_rfl) (fun w => by kernel_rfl) around_6 w

theorem quo_10 (w : World) : Calls Tryd.prog 17 #[.agg #[.float .f64 4607182418800017408, .float .f64 4607182418800017408], .agg #[.float .f64 0, .float .f64 0]] w fun e w' => e = .returned (.agg #[.float .f64 18442240474082181120, .float .f64 9218868437227405312]) ∧ Only [] w w' :=
  quo_zero _ _ _ _ (lt64 _ rfl) (lt64 _ rfl) (lt64 _ rfl) (lt64 _ rfl) (by kernel_rfl) (by kernel_rfl) (by kernel_rfl) w
set_option maxHeartbeats 1600000 in
theorem alive7_any (w : World) : Calls Tryd.prog 6 #[] w fun e w' => e = .returned (.bool true) ∧ Only [] w w' := by
  have hk6 : (kn 4618441417868443647 4618441417868443649) = true := by kernel_rfl
  have hk2 : (kn 4611686018427387904 4611686018427387904) = true := by kernel_rfl
  have g2 : ord 4611686018427387904 0 = some .gt := by kernel_rfl
  have o1 : FloatKind.f64.format.order 4618441417868443647 4618441417868443648 = some .lt := by kernel_rfl
  have o2 : FloatKind.f64.format.order 4618441417868443649 4618441417868443648 = some .gt := by kernel_rfl
  go_enter Tryd.func6, Tryd.ntmps6
  go_wp2_with fail
  refine (at_yes _ (lt64 _ rfl) (by kernel_rfl) _).mono ?_
  rintro e w1 ⟨rfl, h1⟩
  go_wp2_with fail
  refine (at_yes _ (lt64 _ rfl) (by kernel_rfl) _).mono ?_
  rintro e w2 ⟨rfl, h2⟩
  have H2 := Lib.hid (h1.nil_trans h2)
  clear h1 h2
  go_wp2_with fail
  refine (mul_23 _).mono ?_
  rintro e w3 ⟨rfl, h3⟩
  have H3 := Lib.hid (H2.out.nil_trans h3)
  clear H2 h3
  have hB := Lib.hid (Blk.new w3 24 [.float .f64 4618441417868443647, .float .f64 4618441417868443649])
  have HA := Lib.hid (H3.out.nil_trans (only_new w3 [.float .f64 4618441417868443647, .float .f64 4618441417868443649] 24))
  have hsub : ∀ w : World, (binOp .sub 22 (.float .f64 4618441417868443649) (.float .f64 4618441417868443647)).run Tryd.prog w = .ok (.float .f64 4386506037058863104) w := fun w => run_float_arith w .sub 22 .f64 _ _ _ (by kernel_rfl)
  have o3 : FloatKind.f64.format.order 4386506037058863104 4427486594234968593 = some .lt := by kernel_rfl
  go_wp2_with fail
  refine (at_yes _ (lt64 _ rfl) (by kernel_rfl) _).mono ?_
  rintro e w4 ⟨rfl, h4⟩
  have hB4 := Lib.hid (hB.out.only h4 (by simp))
  have H4 := Lib.hid (HA.out.nil_trans h4)
  clear hB HA h4 H3
  go_wp2_with fail
  refine (sign_any _ _ (by decide) (by decide) _ hk2).mono ?_
  rw [if_pos g2, if_pos g2]
  rintro e w5 ⟨rfl, h5⟩
  have hB5 := Lib.hid (hB4.out.only h5 (by simp))
  have H5 := Lib.hid (H4.out.nil_trans h5)
  clear hB4 H4 h5
  have c0 := hB5.out.cell 0
  have c1 := hB5.out.cell 1
  simp only [List.getElem?_cons_zero, List.getElem?_cons_succ] at c0 c1
  go_wp2_with fail
  refine (known_any _ _ (by decide) (by decide) _).mono ?_
  rw [hk6]
  rintro e w6 ⟨rfl, h6⟩
  have hB6 := Lib.hid (hB5.out.only h6 (by simp))
  have H6 := Lib.hid (H5.out.nil_trans h6)
  clear hB5 H5 h6 c0 c1
  have c0 := hB6.out.cell 0
  have c1 := hB6.out.cell 1
  simp only [List.getElem?_cons_zero, List.getElem?_cons_succ] at c0 c1
  go_wp2_with fail
  refine (at_yes _ (lt64 _ rfl) (by kernel_rfl) _).mono ?_
  rintro e w7 ⟨rfl, h7⟩
  have H7 := Lib.hid (H6.out.nil_trans h7)
  clear c0 c1 hB6 h7 H6
  go_wp2_with fail
  refine (at_yes _ (lt64 _ rfl) (by kernel_rfl) _).mono ?_
  rintro e w8 ⟨rfl, h8⟩
  have H8 := Lib.hid (H7.out.nil_trans h8)
  clear h8 H7
  go_wp2_with fail
  refine (quo_10 _).mono ?_
  rintro e w9 ⟨rfl, h9⟩
  have H9 := Lib.hid (H8.out.nil_trans h9)
  clear h9 H8
  have hkn : (kn 18442240474082181120 9218868437227405312) = false := by kernel_rfl
  go_wp2_with fail
  refine (known_any _ _ (by decide) (by decide) _).mono ?_
  rw [hkn]
  rintro e wa ⟨rfl, ha⟩
  go_wp2_with fail
  go_ret
  exact ⟨by simp, H9.out.nil_trans ha⟩
end Fl
end Go.Proofs.YtkibkmdgibemkaaDoor

/-
  min and max of floats that are no NaN.
-/
namespace Go.Proofs.YtkibkmdgibemkaaDoor
set_option linter.unusedSimpArgs false
namespace Fl
theorem cmp_cases (x y : Int) : (x < y ∧ compare x y = .lt) ∨ (x = y ∧ compare x y = .eq) ∨ (y < x ∧ compare x y = .gt) := by
  cases hc : compare x y
  · left; exact ⟨by have := Int.compare_eq_lt.1 hc; omega, rfl⟩
  · right; left; exact ⟨compare_eq_iff.1 hc, rfl⟩
  · right; right; exact ⟨by have := compare_gt_iff.1 hc; omega, rfl⟩
theorem min2_word (P : Program) (s t : Bool) {r q : Nat} (hr : r ≤ INF) (hq : q ≤ INF) : ∃ a i, i ≤ INF ∧ (∀ w : World, (Builtin.min2 (.float .f64 (wordB s r)) (.float .f64 (wordB t q))).run P w = .ok (.float .f64 (wordB a i)) w) ∧ sg a i ≤ sg s r ∧ sg a i ≤ sg t q ∧ ((a = s ∧ i = r) ∨ (a = t ∧ i = q)) := by
  have ho : FloatKind.f64.format.order (wordB s r) (wordB t q) = some (compare (sg s r) (sg t q)) := ord_rung s t hr hq
  rcases cmp_cases (sg s r) (sg t q) with ⟨h, hc⟩ | ⟨h, hc⟩ | ⟨h, hc⟩
  · exact ⟨s, r, hr, fun w => by simp only [Builtin.min2, ho, hc]; rfl, by omega, by omega, .inl ⟨rfl, rfl⟩⟩
  · by_cases hn : (FloatKind.f64.decode (wordB s r)).neg = true
    · exact ⟨s, r, hr, fun w => by simp only [Builtin.min2, ho, hc, if_pos hn]; rfl, by omega, by omega, .inl ⟨rfl, rfl⟩⟩
    · exact ⟨t, q, hq, fun w => by simp only [Builtin.min2, ho, hc, if_neg hn]; rfl, by omega, by omega, .inr ⟨rfl, rfl⟩⟩
  · exact ⟨t, q, hq, fun w => by simp only [Builtin.min2, ho, hc]; rfl, by omega, by omega, .inr ⟨rfl, rfl⟩⟩
theorem min4_word (P : Program) (s1 s2 s3 s4 : Bool) {r1 r2 r3 r4 : Nat} (h1 : r1 ≤ INF) (h2 : r2 ≤ INF) (h3 : r3 ≤ INF) (h4 : r4 ≤ INF) (t : TypeId) (ts : Array TypeId) : ∃ a i, i ≤ INF ∧ (∀ w : World, (Builtin.min_ ts t #[.float .f64 (wordB s1 r1), .float .f64 (wordB s2 r2), .float .f64 (wordB s3 r3), .float .f64 (wordB s4 r4)]).run P w = .ok (.float .f64 (wordB a i)) w) ∧ sg a i ≤ sg s1 r1 ∧ sg a i ≤ sg s2 r2 ∧ sg a i ≤ sg s3 r3 ∧ sg a i ≤ sg s4 r4 ∧ ((a = s1 ∧ i = r1) ∨ (a = s2 ∧ i = r2) ∨ (a = s3 ∧ i = r3) ∨ (a = s4 ∧ i = r4)) := by
  obtain ⟨a, i, hi, ha, l1, l2, c⟩ := min2_word P s1 s2 h1 h2
  obtain ⟨b, j, hj, hb, l3, l4, d⟩ := min2_word P a s3 hi h3
  obtain ⟨e, k, hk, he, l5, l6, f⟩ := min2_word P b s4 hj h4
  refine ⟨e, k, hk, fun w => ?_, by omega, by omega, by omega, by omega, ?_⟩
  · simp only [Builtin.min_, List.foldlM, Sem.run_bind, ha, hb, he, Result.andThen]
    rfl
  · rcases f with ⟨rfl, rfl⟩ | ⟨rfl, rfl⟩
    · rcases d with ⟨rfl, rfl⟩ | ⟨rfl, rfl⟩
      · rcases c with ⟨rfl, rfl⟩ | ⟨rfl, rfl⟩
        · exact .inl ⟨rfl, rfl⟩
        · exact .inr (.inl ⟨rfl, rfl⟩)
      · exact .inr (.inr (.inl ⟨rfl, rfl⟩))
    · exact .inr (.inr (.inr ⟨rfl, rfl⟩))
theorem max2_word (P : Program) (s t : Bool) {r q : Nat} (hr : r ≤ INF) (hq : q ≤ INF) : ∃ a i, i ≤ INF ∧ (∀ w : World, (Builtin.max2 (.float .f64 (wordB s r)) (.float .f64 (wordB t q))).run P w = .ok (.float .f64 (wordB a i)) w) ∧ sg s r ≤ sg a i ∧ sg t q ≤ sg a i ∧ ((a = s ∧ i = r) ∨ (a = t ∧ i = q)) := by
  have ho : FloatKind.f64.format.order (wordB s r) (wordB t q) = some (compare (sg s r) (sg t q)) := ord_rung s t hr hq
  rcases cmp_cases (sg s r) (sg t q) with ⟨h, hc⟩ | ⟨h, hc⟩ | ⟨h, hc⟩
  · exact ⟨t, q, hq, fun w => by simp only [Builtin.max2, ho, hc]; rfl, by omega, by omega, .inr ⟨rfl, rfl⟩⟩
  · by_cases hn : (FloatKind.f64.decode (wordB s r)).neg = true
    · exact ⟨t, q, hq, fun w => by simp only [Builtin.max2, ho, hc, if_pos hn]; rfl, by omega, by omega, .inr ⟨rfl, rfl⟩⟩
    · exact ⟨s, r, hr, fun w => by simp only [Builtin.max2, ho, hc, if_neg hn]; rfl, by omega, by omega, .inl ⟨rfl, rfl⟩⟩
  · exact ⟨s, r, hr, fun w => by simp only [Builtin.max2, ho, hc]; rfl, by omega, by omega, .inl ⟨rfl, rfl⟩⟩
theorem max4_word (P : Program) (s1 s2 s3 s4 : Bool) {r1 r2 r3 r4 : Nat} (h1 : r1 ≤ INF) (h2 : r2 ≤ INF) (h3 : r3 ≤ INF) (h4 : r4 ≤ INF) (t : TypeId) (ts : Array TypeId) : ∃ a i, i ≤ INF ∧ (∀ w : World, (Builtin.max_ ts t #[.float .f64 (wordB s1 r1), .float .f64 (wordB s2 r2), .float .f64 (wordB s3 r3), .float .f64 (wordB s4 r4)]).run P w = .ok (.float .f64 (wordB a i)) w) ∧ sg s1 r1 ≤ sg a i ∧ sg s2 r2 ≤ sg a i ∧ sg s3 r3 ≤ sg a i ∧ sg s4 r4 ≤ sg a i ∧ ((a = s1 ∧ i = r1) ∨ (a = s2 ∧ i = r2) ∨ (a = s3 ∧ i = r3) ∨ (a = s4 ∧ i = r4)) := by
  obtain ⟨a, i, hi, ha, l1, l2, c⟩ := max2_word P s1 s2 h1 h2
  obtain ⟨b, j, hj, hb, l3, l4, d⟩ := max2_word P a s3 hi h3
  obtain ⟨e, k, hk, he, l5, l6, f⟩ := max2_word P b s4 hj h4
  refine ⟨e, k, hk, fun w => ?_, by omega, by omega, by omega, by omega, ?_⟩
  · simp only [Builtin.max_, List.foldlM, Sem.run_bind, ha, hb, he, Result.andThen]
    rfl
  · rcases f with ⟨rfl, rfl⟩ | ⟨rfl, rfl⟩
    · rcases d with ⟨rfl, rfl⟩ | ⟨rfl, rfl⟩
      · rcases c with ⟨rfl, rfl⟩ | ⟨rfl, rfl⟩
        · exact .inl ⟨rfl, rfl⟩
        · exact .inr (.inl ⟨rfl, rfl⟩)
      · exact .inr (.inr (.inl ⟨rfl, rfl⟩))
    · exact .inr (.inr (.inr ⟨rfl, rfl⟩))
end Fl
end Go.Proofs.YtkibkmdgibemkaaDoor

/-
  A float's dyad, turned back into a float, is the float.
-/
namespace Go.Proofs.YtkibkmdgibemkaaDoor
set_option linter.unusedSimpArgs false
namespace Fl
theorem ru_pos {r : Nat} (h : r ≠ 0) : 0 < ru r := by
  have := ru_lt.2 (show 0 < r by omega)
  rwa [ru_zero] at this
end Fl
end Go.Proofs.YtkibkmdgibemkaaDoor

/-
  Floats, plain: a sum of two lies between the words beside the exact sum.
-/
namespace Go.Proofs.YtkibkmdgibemkaaDoor
set_option linter.unusedSimpArgs false

namespace Fl
theorem write_num (neg : Bool) (m : Nat) (p : Int) : Ieee.double.write (.number neg m p) = Ieee.double.nearest neg m p := rfl
theorem cmpI_compare (x y : Int) : (cmpI x y < 0 ↔ compare x y = .lt) ∧ (cmpI x y = 0 ↔ compare x y = .eq) := by
  rw [compare_lt_iff, compare_eq_iff]
  rcases Int.lt_trichotomy x y with h | h | h
  · rw [cmpI_lt h]; constructor <;> constructor <;> intro h <;> omega
  · rw [cmpI_eq h]; constructor <;> constructor <;> intro h <;> omega
  · rw [cmpI_gt h]; constructor <;> constructor <;> intro h <;> omega
/-- Words stand as their dyads. -/
theorem cmp_word (s t : Bool) (r q : Nat) : (cmpQ (fD s r).q (fD t q).q < 0 ↔ compare (sg s r) (sg t q) = .lt) ∧ (cmpQ (fD s r).q (fD t q).q = 0 ↔ compare (sg s r) (sg t q) = .eq) := by
  rw [fD_q, fD_q, cmpQ_at, ← sg_rung]
  exact cmpI_compare _ _
end Fl
end Go.Proofs.YtkibkmdgibemkaaDoor

/-
  Floats, plain: a step down and a step up from what an operation tells hold the exact result between them.
-/
namespace Go.Proofs.YtkibkmdgibemkaaDoor
set_option linter.unusedSimpArgs false
namespace Fl
/-- What lies between one step down and one step up. -/
def Enc (c : Bool) (ρ : Nat) (le ge : Rat → Prop) : Prop := ∃ a i b j, stepW false c ρ = wordB a i ∧ stepW true c ρ = wordB b j ∧ i ≤ INF ∧ j ≤ INF ∧ (i < INF → le (fD a i).q) ∧ (j < INF → ge (fD b j).q)
theorem step_enc {neg : Bool} {ρ f : Nat} {le ge : Rat → Prop} (hI : ρ ≤ INF) (hρ : ρ ≤ f + 1) (hf : ρ < INF → f ≤ ρ) (hl : ∀ g, g ≤ f → if neg then ge (-ru g) else le (ru g)) (hh : ∀ g, f + 1 ≤ g → if neg then le (-ru g) else ge (ru g)) (h0 : if neg then ge (ru 1) else le (-ru 1)) : Enc neg ρ le ge := by
  have hv := inf_val
  unfold Enc stepW
  rw [if_neg (show ¬ INF < ρ by omega), if_neg (show ¬ INF < ρ by omega)]
  by_cases z : ρ = 0
  · rw [if_pos z, if_pos z]
    refine ⟨true, 1, false, 1, rfl, rfl, by omega, by omega, fun _ => ?_, fun _ => ?_⟩
    · rw [fD_val]
      simp only [if_true]
      cases neg
      · simpa using h0
      · have := hh 1 (by have := hf (by omega); omega)
        simpa using this
    · rw [fD_val]
      simp only [Bool.false_eq_true, if_false]
      cases neg
      · have := hh 1 (by have := hf (by omega); omega)
        simpa using this
      · simpa using h0
  · rw [if_neg z, if_neg z]
    cases neg
    · rw [if_neg (show ¬ (ρ = INF ∧ false = !false) by rintro ⟨_, h⟩; cases h), if_neg (show ¬ ((!false) = false) by decide), word_pre false (by omega)]
      have k1 : le (fD false (ρ - 1)).q := by
        rw [fD_val]
        have := hl (ρ - 1) (by omega)
        simpa using this
      by_cases hi : ρ = INF
      · rw [if_pos (show ρ = INF ∧ false = !true from ⟨hi, rfl⟩)]
        exact ⟨false, ρ - 1, false, ρ, rfl, rfl, by omega, by omega, fun _ => k1, fun h => by omega⟩
      · rw [if_neg (show ¬ (ρ = INF ∧ false = !true) from fun h => hi h.1), if_pos (show (!false) = true from rfl), word_suc]
        refine ⟨false, ρ - 1, false, ρ + 1, rfl, rfl, by omega, by omega, fun _ => k1, fun _ => ?_⟩
        rw [fD_val]
        have := hh (ρ + 1) (by have := hf (by omega); omega)
        simpa using this
    · rw [if_neg (show ¬ (ρ = INF ∧ true = !true) by rintro ⟨_, h⟩; cases h), if_neg (show ¬ ((!true) = true) by decide), word_pre true (by omega)]
      have k1 : ge (fD true (ρ - 1)).q := by
        rw [fD_val]
        have := hl (ρ - 1) (by omega)
        simpa using this
      by_cases hi : ρ = INF
      · rw [if_pos (show ρ = INF ∧ true = !false from ⟨hi, rfl⟩)]
        exact ⟨true, ρ, true, ρ - 1, rfl, rfl, by omega, by omega, fun h => by omega, fun _ => k1⟩
      · rw [if_neg (show ¬ (ρ = INF ∧ true = !false) from fun h => hi h.1), if_pos (show (!true) = false from rfl), word_suc]
        refine ⟨true, ρ + 1, true, ρ - 1, rfl, rfl, by omega, by omega, fun _ => ?_, fun _ => k1⟩
        rw [fD_val]
        have := hh (ρ + 1) (by have := hf (by omega); omega)
        simpa using this
theorem ru_nonneg (g : Nat) : 0 ≤ ru g := by
  have := ru_le.2 (Nat.zero_le g)
  rwa [ru_zero] at this
/-- The nearest word to an amount that stands to all rungs as T does. -/
theorem near_enc {neg : Bool} {m : Nat} {p : Int} {le ge : Rat → Prop} (hm : m ≠ 0) (hl : ∀ g, ru g ≤ ((m : Int) : Rat) * p2 p → if neg then ge (-ru g) else le (ru g)) (hh : ∀ g, ((m : Int) : Rat) * p2 p < ru g → if neg then le (-ru g) else ge (ru g)) (h0 : if neg then ge (ru 1) else le (-ru 1)) :
    ∃ ρ, Ieee.double.nearest neg m p = wordB neg ρ ∧ ρ ≤ INF ∧ Enc neg ρ le ge := by
  obtain ⟨f, rr, h1, h2, h3, h4⟩ := nearest_rung neg p hm
  have k2 := (unit_le _ _ _).1 h2
  have k3 := (unit_lt _ _ _).1 h3
  refine ⟨min rr INF, h1, by omega, step_enc (f := f) (by omega) ?_ (fun h => ?_) (fun g hg => hl g (Rat.le_trans (ru_le.2 hg) k2)) (fun g hg => hh g ?_) h0⟩
  · rcases h4 with h | h
    · omega
    · have := h.1; omega
  · rcases h4 with h | h
    · omega
    · have := h.1; omega
  · have := ru_le.2 hg
    grind
theorem zero_enc (c : Bool) {le ge : Rat → Prop} (h1 : le (-ru 1)) (h2 : ge (ru 1)) : Enc c 0 le ge := by
  have hv := inf_val
  refine ⟨true, 1, false, 1, ?_, ?_, by omega, by omega, fun _ => ?_, fun _ => ?_⟩
  · unfold stepW; rw [if_neg (by omega), if_pos rfl]; rfl
  · unfold stepW; rw [if_neg (by omega), if_pos rfl]; rfl
  · rw [fD_val]; simpa using h1
  · rw [fD_val]; simpa using h2
/-- Exactly: the number is t. -/
theorem exact_enc {neg : Bool} {m : Nat} {p : Int} {t : Rat} (ht : t = if neg then -(((m : Int) : Rat) * p2 p) else ((m : Int) : Rat) * p2 p) : ∃ ρ, Ieee.double.nearest neg m p = wordB neg ρ ∧ ρ ≤ INF ∧ Enc neg ρ (· ≤ t) (t ≤ ·) := by
  have r1 := ru_nonneg 1
  by_cases hm : m = 0
  · subst hm
    have ht0 : t = 0 := by rw [ht]; cases neg <;> simp
    refine ⟨0, ?_, Nat.zero_le _, zero_enc neg ?_ ?_⟩
    · unfold Ieee.Format.nearest
      rw [if_pos rfl, word_eq]
    · rw [ht0]; grind
    · rw [ht0]; exact r1
  · have hp := p2_pos p
    have hT : 0 ≤ ((m : Int) : Rat) * p2 p := by
      have h1 : (0 : Rat) ≤ ((m : Int) : Rat) := by exact_mod_cast Nat.zero_le m
      exact Rat.mul_nonneg h1 (Rat.le_of_lt hp)
    refine near_enc hm (fun g hg => ?_) (fun g hg => ?_) ?_
    · cases neg <;> simp only [Bool.false_eq_true, if_false, if_true] at ht ⊢ <;> grind
    · cases neg <;> simp only [Bool.false_eq_true, if_false, if_true] at ht ⊢ <;> grind
    · cases neg <;> simp only [Bool.false_eq_true, if_false, if_true] at ht ⊢ <;> grind
theorem amount_q {m k r : Nat} (h : m * 2 ^ k = NR r) : ((m : Int) : Rat) * p2 (-1074 + (k : Int)) = ru r := by
  unfold ru
  rw [← h, p2_add, p2_nat]
  generalize p2 (-1074) = z
  push_cast
  grind
theorem prod_q (s t : Bool) (A B : Rat) : (if s then -A else A) * (if t then -B else B) = if (s ^^ t) then -(A * B) else A * B := by
  cases s <;> cases t <;> simp <;> grind
/-- Products. -/
theorem mul_enc (s t : Bool) {r q : Nat} (hr : r < INF) (hq : q < INF) : ∃ c ρ, floatBits .mul .f64 (wordB s r) (wordB t q) = some (wordB c ρ) ∧ ρ ≤ INF ∧ Enc c ρ (· ≤ (fD s r).q * (fD t q).q) ((fD s r).q * (fD t q).q ≤ ·) := by
  obtain ⟨m, k, e1, e2⟩ := read_fin s hr
  obtain ⟨n, l, e3, e4⟩ := read_fin t hq
  obtain ⟨P, hP⟩ : ∃ P, -1074 + (k : Int) = P := ⟨_, rfl⟩
  obtain ⟨Q, hQ⟩ : ∃ Q, -1074 + (l : Int) = Q := ⟨_, rfl⟩
  have h1 := amount_q e2
  have h2 := amount_q e4
  rw [hP] at e1 h1
  rw [hQ] at e3 h2
  have hbits : floatBits .mul .f64 (wordB s r) (wordB t q) = some (Ieee.double.nearest (s ^^ t) (m * n) (P + Q)) := by
    show Ieee.double.mul (wordB s r) (wordB t q) = _
    unfold Ieee.Format.mul
    rw [e1, e3]
    rfl
  clear hP hQ e1 e2 e3 e4
  have hx : (((m * n : Nat) : Int) : Rat) * p2 (P + Q) = ru r * ru q := by
    rw [← h1, ← h2, p2_add]
    generalize p2 P = a
    generalize p2 Q = b
    push_cast
    grind
  have ht : (fD s r).q * (fD t q).q = if (s ^^ t) then -((((m * n : Nat) : Int) : Rat) * p2 (P + Q)) else (((m * n : Nat) : Int) : Rat) * p2 (P + Q) := by
    rw [fD_val, fD_val, prod_q, hx]
  obtain ⟨ρ, g1, g2, g3⟩ := exact_enc ht
  exact ⟨_, ρ, by rw [hbits, g1], g2, g3⟩
/-- Sums. -/
theorem sum_enc (s t : Bool) {r q m k n l : Nat} (e2 : m * 2 ^ k = NR r) (e4 : n * 2 ^ l = NR q) : ∃ c ρ, (Ieee.Datum.sum (.number s m (-1074 + (k : Int))) (.number t n (-1074 + (l : Int)))).map Ieee.double.write = some (wordB c ρ) ∧ ρ ≤ INF ∧ Enc c ρ (· ≤ (fD s r).q + (fD t q).q) ((fD s r).q + (fD t q).q ≤ ·) := by
  obtain ⟨u, hu⟩ : ∃ u : Nat, min (-1074 + (k : Int)) (-1074 + (l : Int)) = -1074 + (u : Int) := ⟨min k l, by omega⟩
  obtain ⟨T, hT⟩ : ∃ T, sg s (m * 2 ^ (-1074 + (k : Int) - (-1074 + (u : Int))).toNat) + sg t (n * 2 ^ (-1074 + (l : Int) - (-1074 + (u : Int))).toNat) = T := ⟨_, rfl⟩
  have hTS : T * 2 ^ u = sg s (NR r) + sg t (NR q) := by
    rw [← hT, Int.add_mul, sg_pow, sg_pow, Nat.mul_assoc, Nat.mul_assoc, ← Nat.pow_add, ← Nat.pow_add, show (-1074 + (k : Int) - (-1074 + (u : Int))).toNat + u = k by omega, show (-1074 + (l : Int) - (-1074 + (u : Int))).toNat + u = l by omega, e2, e4]
  have hbits : (Ieee.Datum.sum (.number s m (-1074 + (k : Int))) (.number t n (-1074 + (l : Int)))).map Ieee.double.write = some (Ieee.double.nearest (if T = 0 then s && t else decide (T < 0)) T.natAbs (-1074 + (u : Int))) := by
    unfold Ieee.Datum.sum
    simp only [signed_sg, hu, hT, Option.map_some, write_num]
  have hxq : (fD s r).q + (fD t q).q = (T : Rat) * p2 (-1074 + (u : Int)) := by
    rw [fD_q, fD_q]
    have h1 := q_down T (-1074 + (u : Int)) u
    rw [show -1074 + (u : Int) - (u : Int) = -1074 by omega, hTS] at h1
    rw [← h1]
    push_cast
    rw [Rat.add_mul]
  generalize -1074 + (u : Int) = P at *
  rw [hbits, hxq]
  have key : (T : Rat) * p2 P = if (if T = 0 then s && t else decide (T < 0)) then -(((T.natAbs : Int) : Rat) * p2 P) else ((T.natAbs : Int) : Rat) * p2 P := by
    by_cases h0 : T = 0
    · subst h0; cases (s && t) <;> simp
    · rw [if_neg h0]
      by_cases hn : T < 0
      · rw [if_pos (by simpa using hn), ← Rat.neg_mul]
        congr 1
        have : T = -((T.natAbs : Nat) : Int) := by omega
        rw [this]
        push_cast
        simp
      · rw [if_neg (by simpa using hn)]
        congr 1
        have : T = ((T.natAbs : Nat) : Int) := by omega
        rw [← this]
  obtain ⟨ρ, g1, g2, g3⟩ := exact_enc key
  exact ⟨_, ρ, by rw [g1], g2, g3⟩
theorem add_enc (s t : Bool) {r q : Nat} (hr : r < INF) (hq : q < INF) : ∃ c ρ, floatBits .add .f64 (wordB s r) (wordB t q) = some (wordB c ρ) ∧ ρ ≤ INF ∧ Enc c ρ (· ≤ (fD s r).q + (fD t q).q) ((fD s r).q + (fD t q).q ≤ ·) := by
  obtain ⟨m, k, e1, e2⟩ := read_fin s hr
  obtain ⟨n, l, e3, e4⟩ := read_fin t hq
  obtain ⟨c, ρ, h1, h2, h3⟩ := sum_enc s t e2 e4
  refine ⟨c, ρ, ?_, h2, h3⟩
  show Ieee.double.add (wordB s r) (wordB t q) = _
  unfold Ieee.Format.add
  rw [e1, e3]
  exact h1
theorem fD_not (t : Bool) (q : Nat) : (fD (!t) q).q = -(fD t q).q := by
  rw [fD_val, fD_val]
  cases t <;> simp
theorem sub_enc (s t : Bool) {r q : Nat} (hr : r < INF) (hq : q < INF) : ∃ c ρ, floatBits .sub .f64 (wordB s r) (wordB t q) = some (wordB c ρ) ∧ ρ ≤ INF ∧ Enc c ρ (· ≤ (fD s r).q - (fD t q).q) ((fD s r).q - (fD t q).q ≤ ·) := by
  obtain ⟨m, k, e1, e2⟩ := read_fin s hr
  obtain ⟨n, l, e3, e4⟩ := read_fin t hq
  obtain ⟨c, ρ, h1, h2, h3⟩ := sum_enc s (!t) e2 e4
  have e : (fD s r).q + (fD (!t) q).q = (fD s r).q - (fD t q).q := by rw [fD_not]; grind
  rw [e] at h3
  refine ⟨c, ρ, ?_, h2, h3⟩
  show Ieee.double.sub (wordB s r) (wordB t q) = _
  unfold Ieee.Format.sub
  rw [e1, e3]
  exact h1
theorem rung_dy (g : Nat) : ∃ d : Dy, Short 53 d ∧ d.q = ru g := by
  refine ⟨fD false g, ?_, by rw [fD_val]; simp⟩
  unfold fD
  exact nrm_short false _ _ (by decide) (Nat.le_of_lt (by unfold mantW; split <;> omega))
/-- What stands to all rungs as a number with one digit more, 1 where anything is left over. -/
theorem sticky {Q S : Nat} {E : Int} {A : Rat} (hQ : 2 ^ 52 ≤ Q) (hS : (S = 0 ∧ A = ((Q : Int) : Rat) * p2 (E + 1)) ∨ (S = 1 ∧ ((Q : Int) : Rat) * p2 (E + 1) ≤ A ∧ A ≤ (((Q : Int) + 1 : Int) : Rat) * p2 (E + 1))) (g : Nat) :
    (ru g ≤ (((2 * Q + S : Nat) : Int) : Rat) * p2 E → ru g ≤ A ∧ (S = 1 → ru g ≤ ((Q : Int) : Rat) * p2 (E + 1))) ∧ ((((2 * Q + S : Nat) : Int) : Rat) * p2 E < ru g → A ≤ ru g ∧ (S = 1 → (((Q : Int) + 1 : Int) : Rat) * p2 (E + 1) ≤ ru g)) := by
  obtain ⟨d, h1, h2⟩ := rung_dy g
  have hp := p2_pos E
  have he : p2 (E + 1) = p2 E * 2 := by rw [p2_add]; rfl
  have hM : (((2 * Q + S : Nat) : Int) : Rat) * p2 E = ((Q : Int) : Rat) * p2 (E + 1) + ((S : Int) : Rat) * p2 E := by
    rw [he]
    push_cast
    grind
  rw [hM]
  have g1 := gap_le (P := 53) (m := Q) (E := E + 1) (by decide) hQ h1
  have g2 := gap_ge (P := 53) (m := Q) (E := E + 1) (by decide) hQ h1
  rw [h2] at g1 g2
  rcases hS with ⟨rfl, hA⟩ | ⟨rfl, hA, hB⟩
  · constructor
    · intro h
      refine ⟨?_, fun h => by cases h⟩
      rw [hA]
      simp at h
      grind
    · intro h
      refine ⟨?_, fun h => by cases h⟩
      rw [hA]
      simp at h
      grind
  · have hN : (((Q : Int) + 1 : Int) : Rat) * p2 (E + 1) = ((Q : Int) : Rat) * p2 (E + 1) + p2 E * 2 := by
      rw [he]
      push_cast
      grind
    have h1' : (((1 : Nat) : Int) : Rat) * p2 E = p2 E := by simp
    rw [h1']
    constructor
    · intro h
      have k := g1 (by rw [hN]; grind)
      exact ⟨by grind, fun _ => k⟩
    · intro h
      have k := g2 (by grind)
      exact ⟨by grind, fun _ => k⟩
/-- Quotients. -/
theorem quo_enc (s t : Bool) {r q : Nat} (hr : r < INF) (hq : q < INF) (hq0 : q ≠ 0) : ∃ c ρ, floatBits .quo .f64 (wordB s r) (wordB t q) = some (wordB c ρ) ∧ ρ ≤ INF ∧ Enc c ρ (· ≤ (fD s r).q / (fD t q).q) ((fD s r).q / (fD t q).q ≤ ·) := by
  obtain ⟨m, k, e1, e2⟩ := read_fin s hr
  obtain ⟨n, l, e3, e4⟩ := read_fin t hq
  have h1 := amount_q e2
  have h2 := amount_q e4
  have hn0 : n ≠ 0 := by
    rintro rfl
    have := NR_lt_iff.2 (show 0 < q by omega)
    rw [NR_zero] at this
    omega
  obtain ⟨P, hP⟩ : ∃ P, -1074 + (k : Int) = P := ⟨_, rfl⟩
  obtain ⟨Q, hQ⟩ : ∃ Q, -1074 + (l : Int) = Q := ⟨_, rfl⟩
  rw [hP] at e1 h1
  rw [hQ] at e3 h2
  obtain ⟨mo, hmo⟩ : ∃ mo, 54 + n.log2 - m.log2 = mo := ⟨_, rfl⟩
  obtain ⟨W, hW⟩ : ∃ W, m * 2 ^ mo / n = W := ⟨_, rfl⟩
  obtain ⟨R, hR⟩ : ∃ R, m * 2 ^ mo % n = R := ⟨_, rfl⟩
  obtain ⟨S, hS⟩ : ∃ S, (R != 0).toNat = S := ⟨_, rfl⟩
  have hbits : floatBits .quo .f64 (wordB s r) (wordB t q) = some (Ieee.double.nearest (s ^^ t) (2 * W + S) (P - Q - (mo : Int) - 1)) := by
    show Ieee.double.div (wordB s r) (wordB t q) = _
    unfold Ieee.Format.div
    rw [e1, e3]
    have hf : Ieee.double.fractionBits + 2 = 54 := rfl
    simp only [Ieee.Datum.quotient, if_neg hn0, hf, hmo, Nat.shiftLeft_eq, hW, hR, hS, Option.map_some, write_num]
  rw [hbits]
  clear hbits e1 e3 hP hQ
  have hq' := ru_pos hq0
  obtain ⟨A, hA⟩ : ∃ A, A = ru r / ru q := ⟨_, rfl⟩
  have hAq : A * ru q = ru r := by rw [hA]; exact Rat.div_mul_cancel (by grind)
  have htt : (fD s r).q / (fD t q).q = if (s ^^ t) then -A else A := by
    have hy : (fD t q).q ≠ 0 := by
      rw [fD_val]
      cases t <;> simp <;> grind
    have hm : (if (s ^^ t) then -A else A) * (fD t q).q = (fD s r).q := by
      rw [fD_val, fD_val, ← hAq]
      cases s <;> cases t <;> simp <;> grind
    rw [← hm]
    exact Rat.mul_div_cancel hy
  rw [htt]
  have hA0 : 0 ≤ A := by
    have := ru_nonneg r
    rcases Rat.le_total (a := 0) (b := A) with h | h
    · exact h
    · have h3 := Rat.mul_le_mul_of_nonneg_right h (Rat.le_of_lt hq')
      rw [hAq] at h3
      have h4 : ru r = 0 := by grind
      rw [h4] at hAq
      rcases Rat.mul_eq_zero.1 hAq with h5 | h5
      · grind
      · grind
  by_cases hm0 : m = 0
  · subst hm0
    have hW0 : W = 0 := by rw [← hW]; simp
    have hR0 : R = 0 := by rw [← hR]; simp
    have hS0 : S = 0 := by rw [← hS, hR0]; rfl
    subst hW0 hS0
    have hr0 : ru r = 0 := by rw [← h1]; simp
    have hA1 : A = 0 := by rw [hA, hr0]; simp [Rat.div_def]
    obtain ⟨ρ, g1, g2, g3⟩ := exact_enc (neg := s ^^ t) (m := 0) (p := P - Q - (mo : Int) - 1) (t := if (s ^^ t) then -A else A) (by rw [hA1]; cases (s ^^ t) <;> simp)
    exact ⟨_, ρ, by rw [g1], g2, g3⟩
  · -- the exact quotient at its place
    have hlm := Nat.log2_self_le hm0
    have hln := Nat.lt_log2_self (n := n)
    have hd := Nat.div_add_mod (m * 2 ^ mo) n
    have hrm := Nat.mod_lt (m * 2 ^ mo) (Nat.pos_of_ne_zero hn0)
    rw [hW, hR] at hd
    rw [hR] at hrm
    have hbig : 2 ^ 52 ≤ W := by
      rw [← hW, Nat.le_div_iff_mul_le (Nat.pos_of_ne_zero hn0)]
      have a1 : 2 ^ 52 * n ≤ 2 ^ 52 * 2 ^ (n.log2 + 1) := Nat.mul_le_mul_left _ (Nat.le_of_lt hln)
      have a2 : 2 ^ m.log2 * 2 ^ mo ≤ m * 2 ^ mo := Nat.mul_le_mul_right _ hlm
      rw [← Nat.pow_add] at a1 a2
      have a3 := two_mono (show 52 + (n.log2 + 1) ≤ m.log2 + mo by omega)
      omega
    obtain ⟨E, hE⟩ : ∃ E, P - Q - (mo : Int) - 1 = E := ⟨_, rfl⟩
    have hE1 : E + 1 = P - Q - (mo : Int) := by omega
    rw [hE]
    obtain ⟨u, hu⟩ : ∃ u, p2 (E + 1) = u := ⟨_, rfl⟩
    have hup : 0 < u := by rw [← hu]; exact p2_pos _
    have hD : A * ((n : Int) : Rat) = ((((n * W + R : Nat) : Int)) : Rat) * u := by
      have hQp := p2_pos Q
      apply rat_cancel hQp
      rw [Rat.mul_assoc, h2, hAq, ← h1, hd, ← hu, hE1]
      have e5 : p2 P = p2 (P - Q - (mo : Int)) * p2 (mo : Int) * p2 Q := by rw [← p2_add, ← p2_add]; congr 1; omega
      rw [e5, p2_nat]
      generalize p2 (P - Q - (mo : Int)) = a
      generalize p2 Q = b
      push_cast
      grind
    have hnr : (0 : Rat) < ((n : Int) : Rat) := by exact_mod_cast Nat.pos_of_ne_zero hn0
    have hRr : (0 : Rat) ≤ ((R : Int) : Rat) := by exact_mod_cast Nat.zero_le R
    have hRn : ((R : Int) : Rat) ≤ ((n : Int) : Rat) := by exact_mod_cast Nat.le_of_lt hrm
    have hD2 : A * ((n : Int) : Rat) = ((W : Int) : Rat) * u * ((n : Int) : Rat) + ((R : Int) : Rat) * u := by
      rw [hD]
      push_cast
      grind
    have hst : (S = 0 ∧ A = ((W : Int) : Rat) * p2 (E + 1)) ∨ (S = 1 ∧ ((W : Int) : Rat) * p2 (E + 1) ≤ A ∧ A ≤ (((W : Int) + 1 : Int) : Rat) * p2 (E + 1)) := by
      rw [hu]
      by_cases hR0 : R = 0
      · left
        refine ⟨by rw [← hS, hR0]; rfl, ?_⟩
        rw [hR0] at hD2
        apply rat_cancel hnr
        simp at hD2
        grind
      · right
        have hS1 : S = 1 := by
          rw [← hS]
          have : (R != 0) = true := by simpa using hR0
          rw [this]; rfl
        refine ⟨hS1, ?_, ?_⟩
        · refine Rat.not_lt.1 fun hc => ?_
          have h3 := Rat.mul_lt_mul_of_pos_right hc hnr
          have h4 := Rat.mul_nonneg hRr (Rat.le_of_lt hup)
          grind
        · refine Rat.not_lt.1 fun hc => ?_
          have h3 := Rat.mul_lt_mul_of_pos_right hc hnr
          have h4 := Rat.mul_le_mul_of_nonneg_right hRn (Rat.le_of_lt hup)
          have h5 : (((W : Int) + 1 : Int) : Rat) * u * ((n : Int) : Rat) = ((W : Int) : Rat) * u * ((n : Int) : Rat) + ((n : Int) : Rat) * u := by
            push_cast
            grind
          grind
    have hstk := fun g => sticky hbig hst g
    have r1 := ru_nonneg 1
    obtain ⟨ρ, g1, g2, g3⟩ := near_enc (neg := s ^^ t) (m := 2 * W + S) (p := E) (le := (· ≤ if (s ^^ t) then -A else A)) (ge := ((if (s ^^ t) then -A else A) ≤ ·)) (by omega) (fun g hg => by
      have := ((hstk g).1 hg).1
      cases (s ^^ t) <;> simp <;> grind) (fun g hg => by
      have := ((hstk g).2 hg).1
      cases (s ^^ t) <;> simp <;> grind) (by cases (s ^^ t) <;> simp <;> grind)
    exact ⟨_, ρ, by rw [g1], g2, g3⟩
theorem root_from (n : Nat) : ∀ (todo root : Nat), root * root ≤ n → n < (root + 2 ^ todo) * (root + 2 ^ todo) → Ieee.Datum.rootFrom n todo root * Ieee.Datum.rootFrom n todo root ≤ n ∧ n < (Ieee.Datum.rootFrom n todo root + 1) * (Ieee.Datum.rootFrom n todo root + 1)
  | 0, root, h1, h2 => by
    unfold Ieee.Datum.rootFrom
    exact ⟨h1, by simpa using h2⟩
  | todo + 1, root, h1, h2 => by
    unfold Ieee.Datum.rootFrom
    have e : 1 <<< todo = 2 ^ todo := by rw [Nat.shiftLeft_eq, Nat.one_mul]
    simp only [e]
    by_cases hc : (root + 2 ^ todo) * (root + 2 ^ todo) ≤ n
    · rw [if_pos hc]
      refine root_from n todo _ hc ?_
      have e2 : root + 2 ^ todo + 2 ^ todo = root + 2 ^ (todo + 1) := by rw [Nat.pow_succ]; omega
      rw [e2]
      exact h2
    · rw [if_neg hc]
      exact root_from n todo root h1 (by omega)
theorem sq_mono {a b : Rat} (h0 : 0 ≤ a) (h : a ≤ b) : a * a ≤ b * b :=
  Rat.le_trans (Rat.mul_le_mul_of_nonneg_left h h0) (Rat.mul_le_mul_of_nonneg_right h (Rat.le_trans h0 h))
/-- Roots: below, and above. -/
def LeR (v : Rat) : Rat → Prop := fun q => q ≤ 0 ∨ q * q ≤ v
def GeR (v : Rat) : Rat → Prop := fun q => 0 ≤ q ∧ v ≤ q * q
theorem sqrt_enc (s : Bool) {r : Nat} (hr : r < INF) (hs : s = true → r = 0) : ∃ c ρ, Ieee.double.sqrt (wordB s r) = some (wordB c ρ) ∧ ρ ≤ INF ∧ Enc c ρ (LeR (ru r)) (GeR (ru r)) := by
  obtain ⟨m, k, e1, e2⟩ := read_fin s hr
  have h1 := amount_q e2
  obtain ⟨P, hP⟩ : ∃ P, -1074 + (k : Int) = P := ⟨_, rfl⟩
  rw [hP] at e1 h1
  have r1 := ru_nonneg 1
  by_cases hm0 : m = 0
  · subst hm0
    have hr0 : ru r = 0 := by rw [← h1]; simp
    refine ⟨s, 0, ?_, Nat.zero_le _, zero_enc s ?_ ?_⟩
    · unfold Ieee.Format.sqrt
      rw [e1]
      simp only [Ieee.Datum.root, if_pos, Option.map_some, write_num]
      unfold Ieee.Format.nearest
      rw [if_pos rfl, word_eq]
    · left; grind
    · refine ⟨r1, ?_⟩
      rw [hr0]
      exact Rat.mul_nonneg r1 r1
  · have hs0 : s = false := by
      cases s
      · rfl
      · exfalso
        have h := hs rfl
        rw [h, NR_zero] at e2
        have : 0 < 2 ^ k := Nat.pow_pos (by decide)
        rcases Nat.mul_eq_zero.1 e2 with h2 | h2 <;> omega
    subst hs0
    obtain ⟨m0, hm⟩ : ∃ m0, 108 - m.log2 = m0 := ⟨_, rfl⟩
    obtain ⟨mo, hmo⟩ : ∃ mo, m0 + ((P - (m0 : Int)) % 2).toNat = mo := ⟨_, rfl⟩
    obtain ⟨n, hn⟩ : ∃ n, m * 2 ^ mo = n := ⟨_, rfl⟩
    obtain ⟨W, hW⟩ : ∃ W, Ieee.Datum.rootFrom n (n.log2 / 2 + 1) 0 = W := ⟨_, rfl⟩
    obtain ⟨S, hS⟩ : ∃ S, (W * W != n).toNat = S := ⟨_, rfl⟩
    obtain ⟨E, hE⟩ : ∃ E, (P - (mo : Int)) / 2 - 1 = E := ⟨_, rfl⟩
    have hbits : Ieee.double.sqrt (wordB false r) = some (Ieee.double.nearest false (2 * W + S) E) := by
      unfold Ieee.Format.sqrt
      rw [e1]
      have hf : 2 * (Ieee.double.fractionBits + 2) = 108 := rfl
      simp only [Ieee.Datum.root, if_neg hm0, Bool.false_eq_true, if_false, hf, hm, hmo, Nat.shiftLeft_eq, hn, hW, hS, hE, Option.map_some, write_num]
    rw [hbits]
    clear hbits e1 hP
    have hP2 : P = (E + 1) + (E + 1) + (mo : Int) := by omega
    have hlm := Nat.log2_self_le hm0
    have hnl := Nat.lt_log2_self (n := n)
    obtain ⟨w1, w2⟩ := root_from n (n.log2 / 2 + 1) 0 (by omega) (by
      rw [Nat.zero_add, ← Nat.pow_add]
      exact Nat.lt_of_lt_of_le hnl (two_mono (by omega)))
    rw [hW] at w1 w2
    have hbig : 2 ^ 52 ≤ W := by
      have a1 : 2 ^ m.log2 * 2 ^ mo ≤ m * 2 ^ mo := Nat.mul_le_mul_right _ hlm
      rw [← Nat.pow_add, hn] at a1
      have a2 := two_mono (show 108 ≤ m.log2 + mo by omega)
      refine Nat.le_of_not_lt fun hc => ?_
      have a3 : (W + 1) * (W + 1) ≤ 2 ^ 52 * 2 ^ 52 := Nat.mul_le_mul (by omega) (by omega)
      rw [← Nat.pow_add] at a3
      have a4 := two_mono (show 52 + 52 ≤ 108 by omega)
      omega
    obtain ⟨u, hu⟩ : ∃ u, p2 (E + 1) = u := ⟨_, rfl⟩
    have hup : 0 < u := by rw [← hu]; exact p2_pos _
    have hv : ru r = ((n : Int) : Rat) * (u * u) := by
      rw [← h1, ← hn, hP2, p2_add, p2_add, hu, p2_nat]
      push_cast
      grind
    have hWr : (0 : Rat) ≤ ((W : Int) : Rat) := by exact_mod_cast Nat.zero_le W
    have hWu : 0 ≤ ((W : Int) : Rat) * u := Rat.mul_nonneg hWr (Rat.le_of_lt hup)
    have huu : 0 ≤ u * u := Rat.mul_nonneg (Rat.le_of_lt hup) (Rat.le_of_lt hup)
    have q1 : ((W : Int) : Rat) * u * (((W : Int) : Rat) * u) ≤ ru r := by
      have h3 : (((W * W : Nat) : Int) : Rat) ≤ ((n : Int) : Rat) := by exact_mod_cast w1
      have e3 : (((W * W : Nat) : Int) : Rat) = ((W : Int) : Rat) * ((W : Int) : Rat) := by push_cast; rfl
      have h4 := Rat.mul_le_mul_of_nonneg_right h3 huu
      rw [hv]
      rw [e3] at h4
      clear h3 e3 hbig w1 w2 hP2 hlm hnl
      generalize ((W : Int) : Rat) = a at *
      generalize ((n : Int) : Rat) = b at *
      clear hv hW hS hn hm hmo hE e2 h1 hu
      grind
    have q2 : ru r ≤ (((W : Int) + 1 : Int) : Rat) * u * ((((W : Int) + 1 : Int) : Rat) * u) := by
      have h3 : ((n : Int) : Rat) ≤ ((((W + 1) * (W + 1) : Nat) : Int) : Rat) := by exact_mod_cast Nat.le_of_lt w2
      have e3 : ((((W + 1) * (W + 1) : Nat) : Int) : Rat) = (((W : Int) + 1 : Int) : Rat) * (((W : Int) + 1 : Int) : Rat) := by push_cast; rfl
      have h4 := Rat.mul_le_mul_of_nonneg_right h3 huu
      rw [hv]
      rw [e3] at h4
      clear h3 e3 hbig w1 w2 hP2 hlm hnl q1 hWu hWr
      generalize (((W : Int) + 1 : Int) : Rat) = a at *
      generalize ((n : Int) : Rat) = b at *
      clear hv hW hS hn hm hmo hE e2 h1 hu
      grind
    have hW1 : ((W : Int) : Rat) * u ≤ (((W : Int) + 1 : Int) : Rat) * u := by push_cast; grind
    by_cases hx : W * W = n
    · have hS0 : S = 0 := by
        rw [← hS]
        have : (W * W != n) = false := by simpa using hx
        rw [this]; rfl
      have hvx : ru r = ((W : Int) : Rat) * u * (((W : Int) : Rat) * u) := by
        rw [hv, ← hx]
        push_cast
        grind
      have hstk := fun g => sticky (E := E) (A := ((W : Int) : Rat) * u) hbig (.inl ⟨hS0, by rw [hu]⟩) g
      obtain ⟨ρ, g1, g2, g3⟩ := near_enc (neg := false) (m := 2 * W + S) (p := E) (le := LeR (ru r)) (ge := GeR (ru r)) (by omega) (fun g hg => by
        have h3 := ((hstk g).1 hg).1
        simp only [Bool.false_eq_true, if_false]
        right
        rw [hvx]
        exact sq_mono (ru_nonneg g) h3) (fun g hg => by
        have h3 := ((hstk g).2 hg).1
        simp only [Bool.false_eq_true, if_false]
        refine ⟨ru_nonneg g, ?_⟩
        rw [hvx]
        exact sq_mono hWu h3) (by simp only [Bool.false_eq_true, if_false]; left; grind)
      exact ⟨_, ρ, by rw [g1], g2, g3⟩
    · have hS1 : S = 1 := by
        rw [← hS]
        have : (W * W != n) = true := by simpa using hx
        rw [this]; rfl
      have hstk := fun g => sticky (E := E) (A := ((W : Int) : Rat) * u) hbig (.inr ⟨hS1, by rw [hu]; exact Rat.le_refl, by rw [hu]; exact hW1⟩) g
      rw [hu] at hstk
      obtain ⟨ρ, g1, g2, g3⟩ := near_enc (neg := false) (m := 2 * W + S) (p := E) (le := LeR (ru r)) (ge := GeR (ru r)) (by omega) (fun g hg => by
        have h3 := ((hstk g).1 hg).2 hS1
        simp only [Bool.false_eq_true, if_false]
        right
        exact Rat.le_trans (sq_mono (ru_nonneg g) h3) q1) (fun g hg => by
        have h3 := ((hstk g).2 hg).2 hS1
        simp only [Bool.false_eq_true, if_false]
        refine ⟨ru_nonneg g, ?_⟩
        exact Rat.le_trans q2 (sq_mono (Rat.le_trans hWu hW1) h3)) (by simp only [Bool.false_eq_true, if_false]; left; grind)
      exact ⟨_, ρ, by rw [g1], g2, g3⟩
end Fl
end Go.Proofs.YtkibkmdgibemkaaDoor
