/-
  Floats, plain: the dyad of a word, the order of words, and what flo.Float tells: the word beside a dyad.
-/
import Derived.Test.YtgiejjpemhceiaaDoorTeFlV
import Derived.Test.YtgiejjpemhceiaaDoorTeRdC
namespace Go.Proofs.YtgiejjpemhceiaaDoor
set_option linter.unusedSimpArgs false

namespace Fl
def mantW (r : Nat) : Nat := if r < 4503599627370496 then r else 4503599627370496 + r % 4503599627370496
def expoW (r : Nat) : Nat := r / 4503599627370496 - 1
theorem mant_expo (r : Nat) : mantW r * 2 ^ expoW r = NR r := by
  unfold mantW expoW NR
  by_cases h : r < 4503599627370496
  · rw [if_pos h, if_pos h, Nat.div_eq_of_lt h]; simp
  · rw [if_neg h, if_neg h]
def fD (neg : Bool) (r : Nat) : Dy := nrm (sg neg (mantW r)) ((expoW r : Int) - 1074)
theorem sg_pow (s : Bool) (n k : Nat) : sg s n * 2 ^ k = sg s (n * 2 ^ k) := by cases s <;> simp [sg, Int.neg_mul]
theorem sg_mulN (s : Bool) (n k : Nat) : sg s n * (k : Int) = sg s (n * k) := by cases s <;> simp [sg, Int.neg_mul]
theorem fD_q (neg : Bool) (r : Nat) : (fD neg r).q = ((sg neg (NR r) : Int) : Rat) * p2 (-1074) := by
  unfold fD
  rw [nrm_q, ← mant_expo r, ← sg_pow, show (-1074 : Int) = ((expoW r : Int) - 1074) - (expoW r : Int) by omega, q_down]
theorem fD_can (neg : Bool) (r : Nat) : Can (fD neg r) := nrm_can _ _

theorem compare_int (x y : Int) : compare x y = if x < y then .lt else if x = y then .eq else .gt := rfl
theorem compare_scale {x y p : Int} (hp : 0 < p) : compare (x * p) (y * p) = compare x y := by
  have h1 : x * p < y * p ↔ x < y := ⟨fun h => Int.lt_of_mul_lt_mul_right h (by omega), fun h => Int.mul_lt_mul_of_pos_right h hp⟩
  have h2 : x * p = y * p ↔ x = y := ⟨fun h => Int.eq_of_mul_eq_mul_right (by omega) h, fun h => by rw [h]⟩
  rw [compare_int, compare_int]
  simp only [h1, h2]
theorem signed_sg (neg : Bool) (m n : Nat) : Ieee.signed neg m n = sg neg (m * 2 ^ n) := by
  cases neg <;> simp [Ieee.signed, sg, Nat.shiftLeft_eq]
theorem compare_lt_iff {x y : Int} : compare x y = .lt ↔ x < y := by rw [compare_int]; split <;> simp_all <;> split <;> simp_all
theorem compare_eq_iff {x y : Int} : compare x y = .eq ↔ x = y := by
  rw [compare_int]
  by_cases h1 : x < y
  · rw [if_pos h1]; constructor <;> intro h <;> first | (cases h; done) | omega
  · rw [if_neg h1]
    by_cases h2 : x = y
    · rw [if_pos h2]; exact ⟨fun _ => h2, fun _ => rfl⟩
    · rw [if_neg h2]; exact ⟨fun h => (by cases h), fun h => absurd h h2⟩
theorem compare_gt_iff {x y : Int} : compare x y = .gt ↔ y < x := by
  rw [compare_int]
  by_cases h1 : x < y
  · rw [if_pos h1]; constructor <;> intro h <;> first | (cases h; done) | omega
  · rw [if_neg h1]
    by_cases h2 : x = y
    · rw [if_pos h2]; constructor <;> intro h <;> first | (cases h; done) | omega
    · rw [if_neg h2]; exact ⟨fun h => (by omega), fun h => rfl⟩
theorem sg_cmp_inf (a b : Bool) {r s : Nat} (h : r < s) : compare (sg a s) (sg b r) = (if a then .lt else .gt : Ordering) ∧ compare (sg a r) (sg b s) = (if b then .gt else .lt : Ordering) := by
  cases a <;> cases b <;> simp only [sg, Bool.false_eq_true, if_false, if_true] <;> refine ⟨?_, ?_⟩ <;> first | exact compare_lt_iff.2 (by omega) | exact compare_gt_iff.2 (by omega)
theorem ord_word (a b : Bool) {r s : Nat} (hr : r ≤ INF) (hs : s ≤ INF) : Ieee.double.order (wordB a r) (wordB b s) = some (compare (sg a (NR r)) (sg b (NR s))) := by
  unfold Ieee.Format.order
  rcases Nat.lt_or_ge r INF with h1 | h1
  · obtain ⟨m, k, e1, e2⟩ := read_fin a h1
    rcases Nat.lt_or_ge s INF with h2 | h2
    · obtain ⟨n, l, e3, e4⟩ := read_fin b h2
      rw [e1, e3]
      unfold Ieee.Datum.order
      simp only [signed_sg]
      obtain ⟨u, hu⟩ : ∃ u : Nat, min (-1074 + (k : Int)) (-1074 + (l : Int)) = -1074 + (u : Int) := ⟨min k l, by omega⟩
      rw [hu, ← compare_scale (p := ((2 ^ u : Nat) : Int)) (by have : 0 < 2 ^ u := Nat.pow_pos (by omega); omega), sg_mulN, sg_mulN, Nat.mul_assoc, Nat.mul_assoc, ← Nat.pow_add, ← Nat.pow_add, show (-1074 + (k : Int) - (-1074 + (u : Int))).toNat + u = k by omega, show (-1074 + (l : Int) - (-1074 + (u : Int))).toNat + u = l by omega, e2, e4]
    · obtain rfl : s = INF := by omega
      rw [e1, read_inf]
      unfold Ieee.Datum.order
      simp only
      rw [(sg_cmp_inf a b (NR_lt_iff.2 h1)).2]
  · obtain rfl : r = INF := by omega
    rcases Nat.lt_or_ge s INF with h2 | h2
    · obtain ⟨n, l, e3, e4⟩ := read_fin b h2
      rw [e3, read_inf]
      unfold Ieee.Datum.order
      simp only
      rw [(sg_cmp_inf a b (NR_lt_iff.2 h2)).1]
    · obtain rfl : s = INF := by omega
      rw [read_inf, read_inf]
      unfold Ieee.Datum.order
      have h0 : 0 < NR INF := Nat.lt_of_le_of_lt (Nat.zero_le _) (NR_lt_iff.2 (show 0 < INF by decide))
      generalize NR INF = n at *
      cases a <;> cases b <;> simp only [sg, Bool.false_eq_true, if_false, if_true]
      · rw [compare_eq_iff.2 rfl]; rfl
      · rw [compare_gt_iff.2 (by omega)]; rfl
      · rw [compare_lt_iff.2 (by omega)]; rfl
      · rw [compare_eq_iff.2 rfl]; rfl
theorem sg_rung (a b : Bool) (r s : Nat) : compare (sg a (NR r)) (sg b (NR s)) = compare (sg a r) (sg b s) := by
  have h1 : NR r < NR s ↔ r < s := NR_lt_iff
  have h2 : NR s < NR r ↔ s < r := NR_lt_iff
  have h3 : NR r = NR s ↔ r = s := ⟨NR_inj, fun h => by rw [h]⟩
  have h4 : 0 < NR r ↔ 0 < r := by have := NR_lt_iff (r := 0) (s := r); rw [NR_zero] at this; exact this
  have h5 : 0 < NR s ↔ 0 < s := by have := NR_lt_iff (r := 0) (s := s); rw [NR_zero] at this; exact this
  rw [compare_int, compare_int]
  cases a <;> cases b <;> simp only [sg, if_true, if_false, Bool.false_eq_true]
  all_goals
    congr 1
    · apply propext; constructor <;> intro h <;> omega
    · congr 1
      apply propext; constructor <;> intro h <;> omega
theorem ord_rung (a b : Bool) {r s : Nat} (hr : r ≤ INF) (hs : s ≤ INF) : Ieee.double.order (wordB a r) (wordB b s) = some (compare (sg a r) (sg b s)) := by rw [ord_word a b hr hs, sg_rung]
theorem ord_nan (a : Bool) {r : Nat} (h : INF < r) (h2 : r < 9223372036854775808) (w : Nat) : Ieee.double.order (wordB a r) w = none ∧ Ieee.double.order w (wordB a r) = none := by
  unfold Ieee.Format.order
  rw [read_nan a h h2]
  refine ⟨rfl, ?_⟩
  cases Ieee.double.read w <;> rfl

def aq (x : Dy) : Rat := ((x.z.natAbs : Int) : Rat) * p2 x.e
theorem aq_q (x : Dy) : aq x = if decide (x.z < 0) then -x.q else x.q := abs_q x
theorem unit_le (m n : Nat) (e : Int) : n * 2 ^ (-1074 - e).toNat ≤ m * 2 ^ (e + 1074).toNat ↔ ((n : Int) : Rat) * p2 (-1074) ≤ ((m : Int) : Rat) * p2 e := by
  have h1 := q_at (x := ⟨(n : Int), -1074⟩) (m := min (-1074) e) (by show min (-1074) e ≤ -1074; omega)
  have h2 := q_at (x := ⟨(m : Int), e⟩) (m := min (-1074) e) (by show min (-1074) e ≤ e; omega)
  unfold Dy.q at h1 h2
  simp only at h1 h2
  rw [h1, h2, rat_le_iff, show (-1074 - min (-1074) e).toNat = (-1074 - e).toNat by omega, show (e - min (-1074) e).toNat = (e + 1074).toNat by omega]
  generalize (-1074 - e).toNat = a
  generalize (e + 1074).toNat = b
  rw [← Int.ofNat_le]
  push_cast
  exact Iff.rfl
theorem unit_lt (m n : Nat) (e : Int) : m * 2 ^ (e + 1074).toNat < n * 2 ^ (-1074 - e).toNat ↔ ((m : Int) : Rat) * p2 e < ((n : Int) : Rat) * p2 (-1074) := by
  have h := unit_le m n e
  constructor
  · intro h1
    apply Rat.not_le.1
    intro h2
    have := h.2 h2
    omega
  · intro h1
    have h2 : ¬ n * 2 ^ (-1074 - e).toNat ≤ m * 2 ^ (e + 1074).toNat := fun hc => Rat.not_le.2 h1 (h.1 hc)
    omega
abbrev ru (n : Nat) : Rat := ((NR n : Int) : Rat) * p2 (-1074)
theorem ru_lt {r s : Nat} : ru r < ru s ↔ r < s := by
  unfold ru
  rw [rat_lt_iff]
  exact Int.ofNat_lt.trans NR_lt_iff
theorem ru_le {r s : Nat} : ru r ≤ ru s ↔ r ≤ s := by
  have h := ru_lt (r := s) (s := r)
  constructor
  · intro h1
    have : ¬ s < r := fun hc => Rat.not_le.2 (h.2 hc) h1
    omega
  · intro h1
    apply Rat.not_lt.1
    intro hc
    have := h.1 hc
    omega
theorem ru_zero : ru 0 = 0 := by unfold ru; rw [NR_zero]; simp
structure Beside (x : Dy) (f : Nat) (ex : Bool) : Prop where
  lo : ru f ≤ aq x
  hi : aq x < ru (f + 1)
  ex : ex = true ↔ ru f = aq x
theorem beside (x : Dy) (h : x.z ≠ 0) : ∃ f ex, Beside x f ex := by
  obtain ⟨f, rr, -, h1, h2, -⟩ := nearest_rung false (mag := x.z.natAbs) x.e (by omega)
  by_cases he : ru f = aq x
  · exact ⟨f, true, (unit_le _ _ _).1 h1, (unit_lt _ _ _).1 h2, by simp [he]⟩
  · exact ⟨f, false, (unit_le _ _ _).1 h1, (unit_lt _ _ _).1 h2, by simp [he]⟩
theorem Beside.one {x : Dy} {f g : Nat} {a b : Bool} (h : Beside x f a) (h' : Beside x g b) : f = g ∧ a = b := by
  have h1 : ru f < ru (g + 1) := by have := h.lo; have := h'.hi; grind
  have h2 : ru g < ru (f + 1) := by have := h'.lo; have := h.hi; grind
  rw [ru_lt] at h1 h2
  obtain rfl : f = g := by omega
  refine ⟨rfl, ?_⟩
  have := h.ex
  have := h'.ex
  cases a <;> cases b <;> simp_all
def exactW (r : Dy) : Nat :=
  wordB (decide (r.z < 0)) (if -1021 ≤ topD r then (topD r + 1022).toNat * 4503599627370496 + r.z.natAbs * 2 ^ (53 - bitsN r.z.natAbs) % 4503599627370496 else r.z.natAbs * 2 ^ (r.e + 1074).toNat)
def farW (neg up : Bool) : Nat := wordB neg (if neg != up then INF else INF - 1)
def flW (up : Bool) (x : Dy) : Nat :=
  if x.z = 0 then 0
  else if 1024 < topD x then farW (decide (x.z < 0)) up
  else if topD x ≤ -1074 then (if decide (x.z < 0) != up then wordB (decide (x.z < 0)) 1 else 0)
  else if 1024 < topD (rndD (widthP (min 53 (topD x + 1074))) up x) then farW (decide ((rndD (widthP (min 53 (topD x + 1074))) up x).z < 0)) up
  else exactW (rndD (widthP (min 53 (topD x + 1074))) up x)
theorem p2_ru (E : Nat) : p2 ((E : Int) - 1022) = ru (E * 4503599627370496 + 4503599627370496) := by
  unfold ru
  rw [NR_base E 4503599627370496 (by omega) (by omega)]
  have := q_down 1 ((E : Int) - 1022) (E + 52)
  rw [show (E : Int) - 1022 - ((E + 52 : Nat) : Int) = -1074 by omega] at this
  have e : ((4503599627370496 * 2 ^ E : Nat) : Int) = 1 * 2 ^ (E + 52) := by
    rw [Int.one_mul, show (4503599627370496 : Nat) = 2 ^ 52 by decide, ← Nat.pow_add, Nat.add_comm]
    push_cast
    rfl
  rw [e, this]
  simp
theorem ru_inf : ru INF = p2 1024 := by
  have := p2_ru 2046
  rw [show ((2046 : Nat) : Int) - 1022 = 1024 by decide] at this
  rw [this]
theorem ru_one : ru 1 = p2 (-1074) := by
  unfold ru
  rw [NR_low (by omega)]
  simp
theorem aq_top {x : Dy} (h : x.z ≠ 0) : p2 (topD x - 1) ≤ aq x ∧ aq x < p2 (topD x) := by
  have := top_spec h
  rw [aq_q]
  by_cases h0 : x.z < 0
  · rw [if_pos (by simpa using h0)]; exact this.2 h0
  · rw [if_neg (by simpa using h0)]; exact this.1 (by omega)
theorem exact_rung {r : Dy} (h0 : r.z ≠ 0) (hs : Short 53 r) (he : -1074 ≤ r.e) : ∃ ρ, exactW r = wordB (decide (r.z < 0)) ρ ∧ ru ρ = aq r ∧ (topD r ≤ 1024 → ρ < INF) ∧ (1024 < topD r → INF ≤ ρ) := by
  have hb := short_bits.1 hs
  have hbp : r.z.natAbs ≠ 0 := by omega
  have htd : topD r = (bitsN r.z.natAbs : Int) + r.e := by unfold topD; rw [if_neg h0]
  obtain ⟨b, hb1, hb2, hb3⟩ := bitsN_spec hbp
  have key : ∀ ρ, NR ρ = r.z.natAbs * 2 ^ (r.e + 1074).toNat → ru ρ = aq r := fun ρ h => by
    unfold ru aq
    rw [h]
    have := q_down (r.z.natAbs : Int) r.e (r.e + 1074).toNat
    rw [show r.e - ((r.e + 1074).toNat : Int) = -1074 by omega] at this
    rw [← this]
    push_cast
    rfl
  unfold exactW
  refine ⟨_, rfl, ?_⟩
  have fin : ∀ ρ, ru ρ = aq r → (topD r ≤ 1024 → ρ < INF) ∧ (1024 < topD r → INF ≤ ρ) := fun ρ h => by
    obtain ⟨h1, h2⟩ := aq_top h0
    refine ⟨fun ht => ?_, fun ht => ?_⟩
    · have h3 : p2 (topD r) ≤ p2 1024 := p2_mono ht
      rw [← ru_inf] at h3
      have : ru ρ < ru INF := by rw [h]; grind
      exact ru_lt.1 this
    · have h3 : p2 1024 ≤ p2 (topD r - 1) := p2_mono (by omega)
      rw [← ru_inf] at h3
      have : ru INF ≤ ru ρ := by rw [h]; grind
      exact ru_le.1 this
  by_cases hn : -1021 ≤ topD r
  · rw [if_pos hn]
    have e : ru ((topD r + 1022).toNat * 4503599627370496 + r.z.natAbs * 2 ^ (53 - bitsN r.z.natAbs) % 4503599627370496) = aq r := by
      apply key
      have hm1 : 4503599627370496 ≤ r.z.natAbs * 2 ^ (53 - bitsN r.z.natAbs) := by
        calc 4503599627370496 = 2 ^ b * 2 ^ (53 - bitsN r.z.natAbs) := by rw [← Nat.pow_add, show b + (53 - bitsN r.z.natAbs) = 52 by omega]
          _ ≤ _ := Nat.mul_le_mul_right _ hb2
      have hm2 : r.z.natAbs * 2 ^ (53 - bitsN r.z.natAbs) < 9007199254740992 := by
        calc r.z.natAbs * 2 ^ (53 - bitsN r.z.natAbs) < 2 ^ (b + 1) * 2 ^ (53 - bitsN r.z.natAbs) := Nat.mul_lt_mul_of_pos_right hb3 (Nat.pow_pos (by omega))
          _ = 9007199254740992 := by rw [← Nat.pow_add, show b + 1 + (53 - bitsN r.z.natAbs) = 53 by omega]
      have hT : ((topD r + 1021).toNat : Int) = topD r + 1021 := by omega
      rw [show (topD r + 1022).toNat * 4503599627370496 + r.z.natAbs * 2 ^ (53 - bitsN r.z.natAbs) % 4503599627370496 = (topD r + 1021).toNat * 4503599627370496 + r.z.natAbs * 2 ^ (53 - bitsN r.z.natAbs) by
        rw [show (topD r + 1022).toNat = (topD r + 1021).toNat + 1 by omega]; omega]
      rw [NR_base _ _ hm1 (by omega), Nat.mul_assoc, ← Nat.pow_add]
      congr 2
      omega
    exact ⟨e, fin _ e⟩
  · rw [if_neg hn]
    have e : ru (r.z.natAbs * 2 ^ (r.e + 1074).toNat) = aq r := by
      apply key
      apply NR_low
      calc r.z.natAbs * 2 ^ (r.e + 1074).toNat ≤ 2 ^ (b + 1) * 2 ^ (r.e + 1074).toNat := Nat.mul_le_mul_right _ (Nat.le_of_lt hb3)
        _ ≤ 2 ^ 53 := by rw [← Nat.pow_add]; exact two_mono (by omega)
    exact ⟨e, fin _ e⟩
theorem aq_pos {x : Dy} (h : x.z ≠ 0) : 0 < aq x := by
  have h1 := (aq_top h).1
  have h2 := p2_pos (topD x - 1)
  grind
theorem rd_amount {x r : Dy} {up : Bool} {P : Nat} (hP : 1 ≤ P) (h : x.z ≠ 0) (hr : Rd P up (· ≤ x.q) (x.q ≤ ·) r) :
    r.z ≠ 0 ∧ decide (r.z < 0) = decide (x.z < 0) ∧ p2 (topD x - 1) ≤ aq r ∧ ((decide (x.z < 0) != up) = true → aq x ≤ aq r ∧ ∀ s, Short P s → aq x ≤ s.q → aq r ≤ s.q) ∧ ((decide (x.z < 0) != up) = false → aq r ≤ aq x ∧ ∀ s, Short P s → s.q ≤ aq x → s.q ≤ aq r) := by
  obtain ⟨ht, -⟩ := aq_top h
  have hp := p2_pos (topD x - 1)
  have hs1 : Short P ⟨1, topD x - 1⟩ := by
    show (1 : Int).natAbs < 2 ^ P
    have := two_mono hP
    simpa using (by omega : 1 < 2 ^ P)
  have hq1 : Dy.q ⟨1, topD x - 1⟩ = p2 (topD x - 1) := by unfold Dy.q; simp
  have hso := opp_short hs1
  have hqo : (Dy.opp ⟨1, topD x - 1⟩).q = -p2 (topD x - 1) := by rw [opp_q, hq1]
  have ax := aq_q x
  have ar := aq_q r
  have rn := q_neg (x := r)
  have rp := q_pos (x := r)
  have xn := q_neg (x := x)
  by_cases hx : x.z < 0
  · have hdx : decide (x.z < 0) = true := by simpa using hx
    rw [hdx] at ax ⊢
    simp only [if_true] at ax
    cases up
    · obtain ⟨d1, d2⟩ := hr.dn rfl
      have hrq : r.q < 0 := by grind
      have hrz := rn.1 hrq
      have hdr : decide (r.z < 0) = true := by simpa using hrz
      rw [hdr] at ar ⊢
      simp only [if_true] at ar
      refine ⟨by omega, rfl, by grind, fun _ => ⟨by grind, fun s hs hq => ?_⟩, fun hc => by simp at hc⟩
      have := d2 s.opp (opp_short hs) (by rw [opp_q]; grind)
      rw [opp_q] at this
      grind
    · obtain ⟨d1, d2⟩ := hr.upw rfl
      have h1 := d2 _ hso (by rw [hqo]; grind)
      rw [hqo] at h1
      have hrq : r.q < 0 := by grind
      have hrz := rn.1 hrq
      have hdr : decide (r.z < 0) = true := by simpa using hrz
      rw [hdr] at ar ⊢
      simp only [if_true] at ar
      refine ⟨by omega, rfl, by grind, fun hc => by simp at hc, fun _ => ⟨by grind, fun s hs hq => ?_⟩⟩
      have := d2 s.opp (opp_short hs) (by rw [opp_q]; grind)
      rw [opp_q] at this
      grind
  · have hdx : decide (x.z < 0) = false := by simpa using hx
    rw [hdx] at ax ⊢
    simp only [Bool.false_eq_true, if_false] at ax
    cases up
    · obtain ⟨d1, d2⟩ := hr.dn rfl
      have h1 := d2 _ hs1 (by rw [hq1]; grind)
      rw [hq1] at h1
      have hrq : 0 < r.q := by grind
      have hrz := rp.1 hrq
      have hdr : decide (r.z < 0) = false := by simpa using (by omega : ¬ r.z < 0)
      rw [hdr] at ar ⊢
      simp only [Bool.false_eq_true, if_false] at ar
      refine ⟨by omega, rfl, by grind, fun hc => by simp at hc, fun _ => ⟨by grind, fun s hs hq => ?_⟩⟩
      have := d2 s hs (by grind)
      grind
    · obtain ⟨d1, d2⟩ := hr.upw rfl
      have hrq : 0 < r.q := by grind
      have hrz := rp.1 hrq
      have hdr : decide (r.z < 0) = false := by simpa using (by omega : ¬ r.z < 0)
      rw [hdr] at ar ⊢
      simp only [Bool.false_eq_true, if_false] at ar
      refine ⟨by omega, rfl, by grind, fun _ => ⟨by grind, fun s hs hq => ?_⟩, fun hc => by simp at hc⟩
      have := d2 s hs (by grind)
      grind
theorem ru_two {k : Nat} (hk : k ≤ 53) : ru (2 ^ k) = p2 ((k : Int) - 1074) := by
  unfold ru
  rw [NR_low (Nat.le_trans (two_mono hk) (by decide))]
  have := q_down 1 ((k : Int) - 1074) k
  rw [show (k : Int) - 1074 - (k : Int) = -1074 by omega] at this
  rw [show (((2 ^ k : Nat) : Int)) = 1 * 2 ^ k by push_cast; omega, this]
  simp
theorem rung_short {x : Dy} {f : Nat} {ex : Bool} (h : x.z ≠ 0) (hb : Beside x f ex) (h1 : -1074 < topD x) (g : Nat) (hg : g = f ∨ g = f + 1) : ∃ s, Short (min 53 (topD x + 1074)).toNat s ∧ s.q = ru g := by
  by_cases h53 : 53 ≤ topD x + 1074
  · refine ⟨fD false g, ?_, by rw [fD_q]; rfl⟩
    rw [show (min 53 (topD x + 1074)).toNat = 53 by omega]
    exact nrm_short false _ _ (by omega) (by unfold mantW; split <;> omega)
  · obtain ⟨k, hk⟩ : ∃ k : Nat, topD x + 1074 = (k : Int) := ⟨(topD x + 1074).toNat, by omega⟩
    have hk53 : k ≤ 53 := by omega
    rw [show (min 53 (topD x + 1074)).toNat = k by omega]
    have ht := ru_two hk53
    rw [show (k : Int) - 1074 = topD x by omega] at ht
    have hlt : ru f < ru (2 ^ k) := by
      rw [ht]
      have := (aq_top h).2
      have := hb.lo
      grind
    have hf := ru_lt.1 hlt
    have hNR : NR g ≤ 2 ^ k := by
      have h2 : g ≤ 2 ^ k := by omega
      have h3 := NR_mono h2
      rwa [NR_low (Nat.le_trans (two_mono hk53) (by decide))] at h3
    exact ⟨nrm (sg false (NR g)) (-1074), nrm_short false _ _ (by omega) hNR, by rw [nrm_q]; rfl⟩
theorem mid_spec {x r : Dy} {up : Bool} {f : Nat} {ex : Bool} (h : x.z ≠ 0) (h1 : -1074 < topD x) (hr : Rd (min 53 (topD x + 1074)).toNat up (· ≤ x.q) (x.q ≤ ·) r) (hb : Beside x f ex) :
    r.z ≠ 0 ∧ decide (r.z < 0) = decide (x.z < 0) ∧ Short 53 r ∧ -1074 ≤ r.e ∧ aq r = ru (if decide (x.z < 0) != up then (if ex then f else f + 1) else f) := by
  obtain ⟨a1, a2, a3, a4, a5⟩ := rd_amount (by omega) h hr
  obtain ⟨P, hP⟩ : ∃ P, (min 53 (topD x + 1074)).toNat = P := ⟨_, rfl⟩
  have hsh := fun g hg => rung_short h hb h1 g hg
  rw [hP] at hr hsh a4 a5
  have hs53 : Short 53 r := by
    have := hr.short
    unfold Short at this ⊢
    exact Nat.lt_of_lt_of_le this (two_mono (by omega))
  have he : -1074 ≤ r.e := by
    have h2 : aq r < p2 ((P : Int) + r.e) := by
      unfold aq
      rw [p2_add, p2_nat]
      have h3 : (((r.z.natAbs : Nat) : Int) : Rat) < ((2 ^ P : Int) : Rat) := by
        have := hr.short
        unfold Short at this
        exact_mod_cast this
      exact Rat.mul_lt_mul_of_pos_right h3 (p2_pos _)
    have h4 : p2 (topD x - 1) < p2 ((P : Int) + r.e) := by grind
    have h5 : topD x - 1 < (P : Int) + r.e := by
      apply Decidable.byContradiction
      intro hc
      have := p2_mono (show (P : Int) + r.e ≤ topD x - 1 by omega)
      grind
    omega
  obtain ⟨ρ, -, hρ, -⟩ := exact_rung a1 hs53 he
  refine ⟨a1, a2, hs53, he, ?_⟩
  rw [← hρ]
  congr 1
  congr 2
  obtain ⟨sf, b1, b2⟩ := hsh f (.inl rfl)
  obtain ⟨sg1, c1, c2⟩ := hsh (f + 1) (.inr rfl)
  have hlo := hb.lo
  have hhi := hb.hi
  have hex := hb.ex
  cases hw : decide (x.z < 0) != up
  · simp only [Bool.false_eq_true, if_false]
    obtain ⟨d1, d2⟩ := a5 hw
    have e1 := d2 sf b1 (by rw [b2]; exact hlo)
    rw [b2, ← hρ] at e1
    have e2 : ru ρ < ru (f + 1) := by rw [hρ]; grind
    have := ru_le.1 e1
    have := ru_lt.1 e2
    omega
  · simp only [if_true]
    obtain ⟨d1, d2⟩ := a4 hw
    cases ex
    · simp only [Bool.false_eq_true, if_false]
      have hne : ru f ≠ aq x := fun hc => by have := hex.2 hc; cases this
      have e1 := d2 sg1 c1 (by rw [c2]; grind)
      rw [c2, ← hρ] at e1
      have e2 : ru f < ru ρ := by rw [hρ]; grind
      have := ru_le.1 e1
      have := ru_lt.1 e2
      omega
    · simp only [if_true]
      have he := hex.1 rfl
      have e1 := d2 sf b1 (by rw [b2]; grind)
      rw [b2, ← hρ] at e1
      have e2 : ru f ≤ ru ρ := by rw [hρ]; grind
      have := ru_le.1 e1
      have := ru_le.1 e2
      omega
theorem flW_spec (up : Bool) {x : Dy} (h : x.z ≠ 0) : ∃ f ex, Beside x f ex ∧ flW up x = if decide (x.z < 0) != up then wordB (decide (x.z < 0)) (min (if ex then f else f + 1) INF) else if f = 0 then 0 else wordB (decide (x.z < 0)) (min f (INF - 1)) := by
  obtain ⟨f, ex, hb⟩ := beside x h
  refine ⟨f, ex, hb, ?_⟩
  obtain ⟨t1, t2⟩ := aq_top h
  have hlo := hb.lo
  have hhi := hb.hi
  unfold flW
  rw [if_neg h]
  by_cases c1 : 1024 < topD x
  · rw [if_pos c1]
    have h3 : p2 1024 ≤ p2 (topD x - 1) := p2_mono (by omega)
    rw [← ru_inf] at h3
    have h4 : ru INF < ru (f + 1) := by grind
    have h5 := ru_lt.1 h4
    unfold farW
    cases decide (x.z < 0) != up
    · simp only [Bool.false_eq_true, if_false]
      rw [if_neg (by unfold INF at h5; omega), Nat.min_eq_right (by omega)]
    · simp only [if_true]
      rw [Nat.min_eq_right (by split <;> omega)]
  · rw [if_neg c1]
    by_cases c2 : topD x ≤ -1074
    · rw [if_pos c2]
      have h3 : p2 (topD x) ≤ p2 (-1074) := p2_mono c2
      rw [← ru_one] at h3
      have h4 : ru f < ru 1 := by grind
      have h5 := ru_lt.1 h4
      obtain rfl : f = 0 := by omega
      have hex : ex = false := by
        cases ex
        · rfl
        · have h6 := hb.ex.1 rfl
          rw [ru_zero] at h6
          have := aq_pos h
          grind
      subst hex
      cases decide (x.z < 0) != up
      · simp
      · simp only [if_true, Bool.false_eq_true, if_false]
        rw [Nat.min_eq_left (by unfold INF; omega)]
    · rw [if_neg c2]
      have hw : widthP (min 53 (topD x + 1074)) = (min 53 (topD x + 1074)).toNat := by unfold widthP; omega
      rw [hw]
      obtain ⟨r, hr⟩ : ∃ r, rndD (min 53 (topD x + 1074)).toNat up x = r := ⟨_, rfl⟩
      rw [hr]
      have hrd := rnd_rd (min 53 (topD x + 1074)).toNat up x (by omega)
      rw [hr] at hrd
      obtain ⟨m1, m2, m3, m4, m5⟩ := mid_spec h (by omega) hrd hb
      obtain ⟨ρ, e1, e2, e3, e4⟩ := exact_rung m1 m3 m4
      obtain ⟨g, hg⟩ : ∃ g, (if decide (x.z < 0) != up then (if ex then f else f + 1) else f) = g := ⟨_, rfl⟩
      rw [hg] at m5
      have hρ : ρ = g := by
        have h5 : ru ρ = ru g := by rw [e2, m5]
        have h6 := ru_le.1 (show ru ρ ≤ ru g by grind)
        have h7 := ru_le.1 (show ru g ≤ ru ρ by grind)
        omega
      subst hρ
      have h3 : p2 (topD x) ≤ p2 1024 := p2_mono (by omega)
      rw [← ru_inf] at h3
      have h4 : ru f < ru INF := by grind
      have h5 := ru_lt.1 h4
      rw [e1, m2]
      unfold farW
      have h0 : ρ ≠ 0 := fun hc => by
        subst hc
        rw [ru_zero] at e2
        have := aq_pos m1
        grind
      cases hw : decide (x.z < 0) != up
      · rw [hw] at hg
        simp only [Bool.false_eq_true, if_false] at hg ⊢
        subst hg
        rw [if_neg h0]
        by_cases c3 : 1024 < topD r
        · have := e4 c3
          omega
        · rw [if_neg c3, Nat.min_eq_left (by omega)]
      · rw [hw] at hg
        simp only [if_true] at hg ⊢
        rw [hg]
        by_cases c3 : 1024 < topD r
        · rw [if_pos c3, Nat.min_eq_right (e4 c3)]
        · rw [if_neg c3, Nat.min_eq_left (by have := e3 (by omega); omega)]
end Fl
end Go.Proofs.YtgiejjpemhceiaaDoor
