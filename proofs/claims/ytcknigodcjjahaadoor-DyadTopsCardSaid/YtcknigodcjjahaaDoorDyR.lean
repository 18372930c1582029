/-
  Dyads, plain: rounding to so many bits.
-/
import Derived.Test.YtcknigodcjjahaaDoorDyW
namespace Go.Proofs.YtcknigodcjjahaaDoor
set_option linter.unusedSimpArgs false

/-- A number of P bits at most. -/
def Short (P : Nat) (s : Dy) : Prop := s.z.natAbs < 2 ^ P
theorem short_bits {P : Nat} {s : Dy} : Short P s ↔ bitsN s.z.natAbs ≤ P := by
  unfold Short
  constructor
  · exact bitsN_le
  · intro h
    exact Nat.lt_of_lt_of_le (bitsN_lt _) (two_mono h)
/-- r is what a number (told by what is not above it, and not below it) is rounded to. -/
structure Rd (P : Nat) (up : Bool) (le ge : Rat → Prop) (r : Dy) : Prop where
  can : Can r
  short : Short P r
  dn : up = false → le r.q ∧ ∀ s, Short P s → le s.q → s.q ≤ r.q
  upw : up = true → ge r.q ∧ ∀ s, Short P s → ge s.q → r.q ≤ s.q
theorem Rd.congr {P : Nat} {up : Bool} {le ge le' ge' : Rat → Prop} {r : Dy} (h : Rd P up le ge r) (h1 : ∀ s, Short P s → (le s.q ↔ le' s.q)) (h2 : ∀ s, Short P s → (ge s.q ↔ ge' s.q)) : Rd P up le' ge' r :=
  ⟨h.can, h.short, fun hu => ⟨(h1 _ h.short).1 (h.dn hu).1, fun s hs hl => (h.dn hu).2 s hs ((h1 s hs).2 hl)⟩, fun hu => ⟨(h2 _ h.short).1 (h.upw hu).1, fun s hs hl => (h.upw hu).2 s hs ((h2 s hs).2 hl)⟩⟩
theorem rat_le_antisymm {a b : Rat} (h : a ≤ b) (h' : b ≤ a) : a = b := by grind
theorem Rd.unique {P : Nat} {up : Bool} {le ge : Rat → Prop} {r r' : Dy} (h : Rd P up le ge r) (h' : Rd P up le ge r') : r = r' := by
  apply Can.ext h.can h'.can
  cases up
  · exact rat_le_antisymm ((h'.dn rfl).2 r h.short (h.dn rfl).1) ((h.dn rfl).2 r' h'.short (h'.dn rfl).1)
  · exact rat_le_antisymm ((h.upw rfl).2 r' h'.short (h'.upw rfl).1) ((h'.upw rfl).2 r h.short (h.upw rfl).1)
theorem q_natMul (m : Nat) (E : Int) : ((m : Int) : Rat) * p2 E = Dy.q ⟨(m : Int), E⟩ := rfl
/-- Between a number of P bits and the next one at its exponent there is none of P bits. -/
theorem gap_none {P m : Nat} {E : Int} (hP : 1 ≤ P) (hm : 2 ^ (P - 1) ≤ m) {s : Dy} (hs : Short P s) (h1 : ((m : Int) : Rat) * p2 E < s.q) (h2 : s.q < (((m : Int) + 1 : Int) : Rat) * p2 E) : False := by
  by_cases he : E ≤ s.e
  · rw [q_at he] at h1 h2
    rw [rat_lt_iff] at h1 h2
    omega
  · have e1 := q_down (m : Int) E (E - s.e).toNat
    rw [show E - ((E - s.e).toNat : Int) = s.e by omega] at e1
    rw [← e1] at h1
    unfold Dy.q at h1
    rw [rat_lt_iff] at h1
    obtain ⟨k, hk⟩ : ∃ k, (E - s.e).toNat = k + 1 := ⟨(E - s.e).toNat - 1, by omega⟩
    rw [hk] at h1
    have h3 : s.z.natAbs < 2 ^ P := hs
    have h4 : 2 ^ P = 2 ^ (P - 1) * 2 := by rw [← Nat.pow_succ]; congr 1; omega
    have h5 : (m : Int) * 2 ^ (k + 1) = ((m * 2 ^ k * 2 : Nat) : Int) := by push_cast; rw [Int.pow_succ, Int.mul_assoc]
    have h6 : m * 1 ≤ m * 2 ^ k := Nat.mul_le_mul_left _ (Nat.pow_pos (by omega))
    rw [h5] at h1
    omega
theorem gap_le {P m : Nat} {E : Int} (hP : 1 ≤ P) (hm : 2 ^ (P - 1) ≤ m) {s : Dy} (hs : Short P s) (h2 : s.q < (((m : Int) + 1 : Int) : Rat) * p2 E) : s.q ≤ ((m : Int) : Rat) * p2 E := by
  have := fun h1 => gap_none hP hm hs h1 h2
  grind
theorem gap_ge {P m : Nat} {E : Int} (hP : 1 ≤ P) (hm : 2 ^ (P - 1) ≤ m) {s : Dy} (hs : Short P s) (h1 : ((m : Int) : Rat) * p2 E < s.q) : (((m : Int) + 1 : Int) : Rat) * p2 E ≤ s.q := by
  have := fun h2 => gap_none hP hm hs h1 h2
  grind
/-- The number of the other sign. -/
def Dy.opp (s : Dy) : Dy := ⟨-s.z, s.e⟩
theorem opp_q (s : Dy) : s.opp.q = -s.q := by
  unfold Dy.opp Dy.q
  rw [Rat.intCast_neg]
  grind
theorem opp_short {P : Nat} {s : Dy} (h : Short P s) : Short P s.opp := by
  unfold Short Dy.opp at *
  rw [Int.natAbs_neg]; exact h

/-- The width that is meant. -/
def widthP (p : Int) : Nat := (max 1 (min p 65536)).toNat
theorem widthP_range (p : Int) : 1 ≤ widthP p ∧ widthP p ≤ 65536 := by unfold widthP; omega
/-- Rounded. -/
def rndD (P : Nat) (up : Bool) (x : Dy) : Dy :=
  if bitsN (nrm x.z x.e).z.natAbs ≤ P then nrm x.z x.e
  else nrm (sg (decide ((nrm x.z x.e).z < 0)) ((nrm x.z x.e).z.natAbs / 2 ^ (bitsN (nrm x.z x.e).z.natAbs - P) + if decide ((nrm x.z x.e).z < 0) != up then 1 else 0)) ((nrm x.z x.e).e + ((bitsN (nrm x.z x.e).z.natAbs - P : Nat) : Int))
theorem nrm_short {P : Nat} (s : Bool) (m : Nat) (E : Int) (hP : 1 ≤ P) (hm : m ≤ 2 ^ P) : Short P (nrm (sg s m) E) := by
  unfold Short
  by_cases h0 : m = 0
  · subst h0
    rw [sg_zero, nrm_zero]
    exact Nat.pow_pos (by omega)
  · have hz : sg s m ≠ 0 := by cases s <;> simp only [sg_true, sg_false] <;> omega
    rw [nrm_nz E hz]
    show (sg _ _).natAbs < _
    rw [sg_abs, sg_abs]
    by_cases h1 : m = 2 ^ P
    · have : lowN m = P := by
        rw [h1]
        have := lowN_is P 0
        simpa using this
      rw [this, h1, Nat.div_self (Nat.pow_pos (by omega))]
      have := two_mono hP
      omega
    · exact Nat.lt_of_le_of_lt (Nat.div_le_self _ _) (by omega)
/-- An odd number with more bits than P: what is cut off is not 0. -/
theorem cut_odd {z : Nat} {P : Nat} (hP : 1 ≤ P) (hz : z % 2 = 1) (hb : P < bitsN z) : 2 ^ (P - 1) ≤ z / 2 ^ (bitsN z - P) ∧ z / 2 ^ (bitsN z - P) < 2 ^ P ∧ z / 2 ^ (bitsN z - P) * 2 ^ (bitsN z - P) < z ∧ z < (z / 2 ^ (bitsN z - P) + 1) * 2 ^ (bitsN z - P) := by
  obtain ⟨b, h1, h2, h3⟩ := bitsN_spec (n := z) (by omega)
  rw [h1]
  obtain ⟨n, hn⟩ : ∃ n, b + 1 - P = n + 1 := ⟨b - P, by omega⟩
  rw [hn]
  have hp : 0 < 2 ^ (n + 1) := Nat.pow_pos (by omega)
  have h4 := Nat.div_add_mod z (2 ^ (n + 1))
  have h5 := Nat.mod_lt z hp
  refine ⟨?_, ?_, ?_, ?_⟩
  · rw [Nat.le_div_iff_mul_le hp, ← Nat.pow_add]
    rw [show P - 1 + (n + 1) = b by omega]
    exact h2
  · rw [Nat.div_lt_iff_lt_mul hp, ← Nat.pow_add, show P + (n + 1) = b + 1 by omega]
    exact h3
  · rw [Nat.mul_comm]
    have h6 : z % 2 ^ (n + 1) ≠ 0 := by
      intro hc
      have h7 : z = 2 * (2 ^ n * (z / 2 ^ (n + 1))) := by
        rw [hc, Nat.add_zero] at h4
        rw [← Nat.mul_assoc, Nat.mul_comm 2 (2 ^ n), ← Nat.pow_succ]
        exact h4.symm
      omega
    omega
  · rw [Nat.add_mul, Nat.one_mul, Nat.mul_comm]
    omega
theorem sg_q (s : Bool) (m : Nat) (E : Int) : ((sg s m : Int) : Rat) * p2 E = if s then -(((m : Int) : Rat) * p2 E) else ((m : Int) : Rat) * p2 E := by
  cases s
  · rw [sg_false]; rfl
  · rw [sg_true, Rat.intCast_neg]; simp; grind
theorem rnd_rd (P : Nat) (up : Bool) (x : Dy) (hP : 1 ≤ P) : Rd P up (· ≤ x.q) (x.q ≤ ·) (rndD P up x) := by
  unfold rndD
  have hq := nrm_q x.z x.e
  have hc := nrm_can x.z x.e
  have hq' : (nrm x.z x.e).q = x.q := hq
  clear hq
  generalize nrm x.z x.e = y at *
  by_cases hb : bitsN y.z.natAbs ≤ P
  · rw [if_pos hb, ← hq']
    exact ⟨hc, short_bits.2 hb, fun _ => ⟨Rat.le_refl, fun s _ h => h⟩, fun _ => ⟨Rat.le_refl, fun s _ h => h⟩⟩
  · rw [if_neg hb]
    have hodd : y.z % 2 = 1 := by
      rcases hc with ⟨h1, _⟩ | h1
      · exfalso; apply hb; rw [h1]; show bitsN 0 ≤ P; unfold bitsN; simp
      · exact h1
    obtain ⟨c1, c2, c3, c4⟩ := cut_odd (z := y.z.natAbs) hP (by omega) (by omega)
    have hn : y.z.natAbs = y.z.natAbs := rfl
    generalize hN : bitsN y.z.natAbs - P = n at *
    generalize hM : y.z.natAbs / 2 ^ n = m at *
    -- the amount lies between m and m + 1 at the exponent
    have e1 : ((y.z.natAbs : Int) : Rat) * p2 y.e = ((y.z.natAbs : Int) : Rat) * p2 y.e := rfl
    have d1 := q_down (m : Int) (y.e + (n : Int)) n
    have d2 := q_down ((m : Int) + 1) (y.e + (n : Int)) n
    rw [show y.e + (n : Int) - (n : Int) = y.e by omega] at d1 d2
    have l1 : ((m : Int) : Rat) * p2 (y.e + (n : Int)) < ((y.z.natAbs : Int) : Rat) * p2 y.e := by
      rw [← d1, rat_lt_iff]
      have : ((m * 2 ^ n : Nat) : Int) = (m : Int) * 2 ^ n := by push_cast; rfl
      omega
    have l2 : ((y.z.natAbs : Int) : Rat) * p2 y.e < (((m : Int) + 1 : Int) : Rat) * p2 (y.e + (n : Int)) := by
      rw [← d2, rat_lt_iff]
      have : (((m + 1) * 2 ^ n : Nat) : Int) = ((m : Int) + 1) * 2 ^ n := by push_cast; rfl
      omega
    have hyq : y.q = if decide (y.z < 0) then -(((y.z.natAbs : Int) : Rat) * p2 y.e) else ((y.z.natAbs : Int) : Rat) * p2 y.e := by
      rw [← sg_q, sg_self]; rfl
    clear d1 d2 e1 hn hN hM c3 c4 hb hodd hc
    generalize y.e + (n : Int) = E at *
    generalize ((y.z.natAbs : Int) : Rat) * p2 y.e = T at *
    generalize decide (y.z < 0) = s at *
    rw [← hq']
    have hgl : ∀ s, Short P s → s.q < (((m : Int) + 1 : Int) : Rat) * p2 E → s.q ≤ ((m : Int) : Rat) * p2 E := fun s hs h => gap_le hP c1 hs h
    have hgg : ∀ s, Short P s → ((m : Int) : Rat) * p2 E < s.q → (((m : Int) + 1 : Int) : Rat) * p2 E ≤ s.q := fun s hs h => gap_ge hP c1 hs h
    have hc1 : ((m + 1 : Nat) : Int) = (m : Int) + 1 := by push_cast; rfl
    refine ⟨nrm_can _ _, nrm_short _ _ _ hP (by split <;> omega), fun hu => ?_, fun hu => ?_⟩
    · subst hu
      rw [nrm_q, sg_q]
      cases s
      · simp only [bne_self_eq_false, Bool.false_eq_true, if_false, Nat.add_zero] at hyq ⊢
        rw [hyq]
        exact ⟨by grind, fun s' hs' hl => hgl s' hs' (by grind)⟩
      · simp only [Bool.bne_false, if_true] at hyq ⊢
        rw [hyq, hc1]
        refine ⟨by grind, fun s' hs' hl => ?_⟩
        have h1 := hgg _ (opp_short hs') (by rw [opp_q]; grind)
        rw [opp_q] at h1
        grind
    · subst hu
      rw [nrm_q, sg_q]
      cases s
      · simp only [Bool.bne_true, Bool.not_false, if_true, Bool.false_eq_true, if_false] at hyq ⊢
        rw [hyq, hc1]
        exact ⟨by grind, fun s' hs' hl => hgg s' hs' (by grind)⟩
      · simp only [bne_self_eq_false, Bool.false_eq_true, if_false, if_true, Nat.add_zero] at hyq ⊢
        rw [hyq]
        refine ⟨by grind, fun s' hs' hl => ?_⟩
        have h1 := hgl _ (opp_short hs') (by rw [opp_q]; grind)
        rw [opp_q] at h1
        grind
end Go.Proofs.YtcknigodcjjahaaDoor
