/-
  Dyads, plain: quotients and roots, rounded.
-/
import Derived.Test.YtcknigodcjjahaaDoorDyR
namespace Go.Proofs.YtcknigodcjjahaaDoor
set_option linter.unusedSimpArgs false

/-- What between tells. -/
def betD (P : Nat) (up neg : Bool) (q : Nat) (E : Int) (more : Bool) : Dy := rndD P up (nrm (sg neg (if more then q * 2 + 1 else q)) (if more then E - 1 else E))
/-- The number that stands for all between two. -/
theorem mid_q (q : Nat) (E : Int) : ((q : Int) : Rat) * p2 E < (((q * 2 + 1 : Nat) : Int) : Rat) * p2 (E - 1) ∧ (((q * 2 + 1 : Nat) : Int) : Rat) * p2 (E - 1) < (((q : Int) + 1 : Int) : Rat) * p2 E := by
  have d1 := q_down (q : Int) E 1
  have d2 := q_down ((q : Int) + 1) E 1
  rw [← d1, ← d2]
  show _ * p2 (E - 1) < _ ∧ _ < _ * p2 (E - 1)
  rw [rat_lt_iff, rat_lt_iff]
  omega
theorem bet_val (P : Nat) (up neg : Bool) (q : Nat) (E : Int) (more : Bool) (hP : 1 ≤ P) : ∃ R : Rat, Rd P up (· ≤ (if neg then -R else R)) ((if neg then -R else R) ≤ ·) (betD P up neg q E more) ∧
    (more = true → ((q : Int) : Rat) * p2 E < R ∧ R < (((q : Int) + 1 : Int) : Rat) * p2 E) ∧ (more = false → R = ((q : Int) : Rat) * p2 E) := by
  have h := rnd_rd P up (nrm (sg neg (if more then q * 2 + 1 else q)) (if more then E - 1 else E)) hP
  rw [nrm_q, sg_q] at h
  refine ⟨_, h, fun hm => ?_, fun hm => ?_⟩
  · subst hm
    exact mid_q q E
  · subst hm
    rfl
/-- A number T at hand. -/
theorem bet_rd {P : Nat} {up neg : Bool} {q : Nat} {E : Int} {more : Bool} {T : Rat} (hP : 1 ≤ P) (h1 : more = true → ((q : Int) : Rat) * p2 E < T ∧ T < (((q : Int) + 1 : Int) : Rat) * p2 E) (h2 : more = false → T = ((q : Int) : Rat) * p2 E) (hq : more = true → 2 ^ (P - 1) ≤ q) :
    Rd P up (· ≤ (if neg then -T else T)) ((if neg then -T else T) ≤ ·) (betD P up neg q E more) := by
  obtain ⟨R, hr, r1, r2⟩ := bet_val P up neg q E more hP
  cases more
  · rw [h2 rfl, ← r2 rfl]; exact hr
  · obtain ⟨a1, a2⟩ := h1 rfl
    obtain ⟨b1, b2⟩ := r1 rfl
    have hgl : ∀ s, Short P s → s.q < (((q : Int) + 1 : Int) : Rat) * p2 E → s.q ≤ ((q : Int) : Rat) * p2 E := fun s hs h => gap_le hP (hq rfl) hs h
    have hgg : ∀ s, Short P s → ((q : Int) : Rat) * p2 E < s.q → (((q : Int) + 1 : Int) : Rat) * p2 E ≤ s.q := fun s hs h => gap_ge hP (hq rfl) hs h
    cases neg
    · simp only [Bool.false_eq_true, if_false] at hr ⊢
      refine hr.congr (fun s hs => ⟨fun h => ?_, fun h => ?_⟩) (fun s hs => ⟨fun h => ?_, fun h => ?_⟩)
      · have := hgl s hs (by grind); grind
      · have := hgl s hs (by grind); grind
      · have := hgg s hs (by grind); grind
      · have := hgg s hs (by grind); grind
    · simp only [if_true] at hr ⊢
      refine hr.congr (fun s hs => ⟨fun h => ?_, fun h => ?_⟩) (fun s hs => ⟨fun h => ?_, fun h => ?_⟩)
      · have := hgg _ (opp_short hs) (by rw [opp_q]; grind); rw [opp_q] at this; grind
      · have := hgg _ (opp_short hs) (by rw [opp_q]; grind); rw [opp_q] at this; grind
      · have := hgl _ (opp_short hs) (by rw [opp_q]; grind); rw [opp_q] at this; grind
      · have := hgl _ (opp_short hs) (by rw [opp_q]; grind); rw [opp_q] at this; grind
theorem sq_le {a b : Rat} (h0 : 0 ≤ a) (h : a ≤ b) : a * a ≤ b * b := by
  have h1 := Rat.mul_le_mul_of_nonneg_left h h0
  have h2 := Rat.mul_le_mul_of_nonneg_right h (Rat.le_trans h0 h)
  exact Rat.le_trans h1 h2
theorem sq_lt_of {a b : Rat} (h0 : 0 ≤ b) (h : a * a < b * b) : a < b := by
  apply Decidable.byContradiction
  intro hc
  have := sq_le h0 (Rat.not_lt.1 hc)
  grind
theorem sq_le_of {a b : Rat} (h0 : 0 ≤ b) (h : a * a ≤ b * b) : a ≤ b := by
  apply Decidable.byContradiction
  intro hc
  have h3 : b < a := Rat.not_le.1 hc
  have h1 := Rat.mul_le_mul_of_nonneg_left (Rat.le_of_lt h3) h0
  have h2 := Rat.mul_lt_mul_of_pos_right h3 (show 0 < a by grind)
  grind
/-- What is not above a root, and not below it. -/
def leRt (X : Rat) (s : Rat) : Prop := s ≤ 0 ∨ s * s ≤ X
def geRt (X : Rat) (s : Rat) : Prop := 0 ≤ s ∧ X ≤ s * s
theorem q_nonneg (q : Nat) (E : Int) : 0 ≤ ((q : Int) : Rat) * p2 E := by
  have := rat_le_iff (a := 0) (b := (q : Int)) (m := E)
  rw [show ((0 : Int) : Rat) * p2 E = 0 by simp] at this
  exact this.2 (by omega)
theorem bet_rt {P : Nat} {up : Bool} {q : Nat} {E : Int} {more : Bool} {X : Rat} (hP : 1 ≤ P)
    (h1 : more = true → (((q : Int) : Rat) * p2 E) * (((q : Int) : Rat) * p2 E) < X ∧ X < ((((q : Int) + 1 : Int) : Rat) * p2 E) * ((((q : Int) + 1 : Int) : Rat) * p2 E))
    (h2 : more = false → X = (((q : Int) : Rat) * p2 E) * (((q : Int) : Rat) * p2 E)) (hq : more = true → 2 ^ (P - 1) ≤ q) :
    Rd P up (leRt X) (geRt X) (betD P up false q E more) := by
  obtain ⟨R, hr, r1, r2⟩ := bet_val P up false q E more hP
  simp only [Bool.false_eq_true, if_false] at hr
  have q0 := q_nonneg q E
  cases more
  · have hX := h2 rfl
    have hR := r2 rfl
    subst hR
    rw [hX]
    generalize ((q : Int) : Rat) * p2 E = A at *
    refine hr.congr (fun s hs => ⟨fun h => ?_, fun h => ?_⟩) (fun s hs => ⟨fun h => ?_, fun h => ?_⟩)
    · by_cases h0 : s.q ≤ 0
      · exact .inl h0
      · exact .inr (sq_le (by grind) h)
    · rcases h with h | h
      · grind
      · exact sq_le_of q0 h
    · exact ⟨by grind, sq_le q0 h⟩
    · exact sq_le_of h.1 h.2
  · obtain ⟨a1, a2⟩ := h1 rfl
    obtain ⟨b1, b2⟩ := r1 rfl
    have hgl : ∀ s, Short P s → s.q < (((q : Int) + 1 : Int) : Rat) * p2 E → s.q ≤ ((q : Int) : Rat) * p2 E := fun s hs h => gap_le hP (hq rfl) hs h
    have hgg : ∀ s, Short P s → ((q : Int) : Rat) * p2 E < s.q → (((q : Int) + 1 : Int) : Rat) * p2 E ≤ s.q := fun s hs h => gap_ge hP (hq rfl) hs h
    generalize ((q : Int) : Rat) * p2 E = A at *
    generalize (((q : Int) + 1 : Int) : Rat) * p2 E = B at *
    refine hr.congr (fun s hs => ⟨fun h => ?_, fun h => ?_⟩) (fun s hs => ⟨fun h => ?_, fun h => ?_⟩)
    · by_cases h0 : s.q ≤ 0
      · exact .inl h0
      · have h3 := hgl s hs (by grind)
        have := sq_le (show 0 ≤ s.q by grind) h3
        exact .inr (by grind)
    · rcases h with h | h
      · grind
      · have h3 := hgl s hs (sq_lt_of (by grind) (by grind)); grind
    · have h3 := hgg s hs (by grind)
      have := sq_le (show 0 ≤ B by grind) h3
      exact ⟨by grind, by grind⟩
    · obtain ⟨c1, c2⟩ := h
      have h3 := hgg s hs (sq_lt_of c1 (by grind))
      grind

/-! ### Quotients -/
theorem rat_cancel {a b p : Rat} (hp : 0 < p) (h : a * p = b * p) : a = b := by
  have h1 : (a - b) * p = 0 := by grind
  rcases Rat.mul_eq_zero.1 h1 with h | h <;> grind
theorem low_mod {n k : Nat} (h : n ≠ 0) : lowN n < k ↔ n % 2 ^ k ≠ 0 := by
  obtain ⟨m, hm⟩ := lowN_spec h
  constructor
  · intro hlt hc
    obtain ⟨d, hd⟩ := Nat.dvd_of_mod_eq_zero hc
    have e : 2 ^ k = 2 ^ lowN n * (2 * 2 ^ (k - lowN n - 1)) := by
      rw [← Nat.pow_succ', ← Nat.pow_add]; congr 1; omega
    have h1 : 2 ^ lowN n * (2 * m + 1) = 2 ^ lowN n * (2 * 2 ^ (k - lowN n - 1) * d) := by
      rw [← Nat.mul_assoc, ← e, ← hd]; exact hm.symm
    have h2 := Nat.eq_of_mul_eq_mul_left (Nat.pow_pos (by omega)) h1
    rw [Nat.mul_assoc] at h2
    omega
  · intro hne
    apply Nat.lt_of_not_le
    intro hc
    apply hne
    apply Nat.mod_eq_zero_of_dvd
    have e : 2 ^ lowN n = 2 ^ k * 2 ^ (lowN n - k) := by rw [← Nat.pow_add]; congr 1; omega
    rw [hm, e, Nat.mul_assoc]
    exact Nat.dvd_mul_right _ _
/-- A number shifted by n bits, up or down; what is cut off. -/
def shN (x : Nat) (n : Int) : Nat := if 0 ≤ n then x * 2 ^ n.toNat else x / 2 ^ (-n).toNat
def cutB (x : Nat) (n : Int) : Bool := decide (n < 0) && decide (lowN x < (-n).toNat)
theorem sh_spec {x : Nat} (hx : x ≠ 0) (n : Int) : ∃ f : Rat, 0 ≤ f ∧ f < 1 ∧ (cutB x n = true ↔ 0 < f) ∧ ∀ E : Int, ((x : Int) : Rat) * p2 (E + n) = (((shN x n : Nat) : Int) : Rat) * p2 E + f * p2 E := by
  unfold shN cutB
  by_cases h : 0 ≤ n
  · rw [if_pos h]
    refine ⟨0, by decide, by decide, by simp; omega, fun E => ?_⟩
    have h1 := q_down (x : Int) (E + n) n.toNat
    rw [show E + n - (n.toNat : Int) = E by omega] at h1
    rw [← h1]
    have : ((x * 2 ^ n.toNat : Nat) : Int) = (x : Int) * 2 ^ n.toNat := by push_cast; rfl
    rw [this]
    grind
  · rw [if_neg h]
    obtain ⟨k, hk⟩ : ∃ k, (-n).toNat = k := ⟨_, rfl⟩
    rw [hk]
    have hp : 0 < 2 ^ k := Nat.pow_pos (by omega)
    have h1 := Nat.div_add_mod x (2 ^ k)
    have h2 := Nat.mod_lt x hp
    have h3 := low_mod (k := k) hx
    have hnk : n = -(k : Int) := by omega
    refine ⟨((x % 2 ^ k : Nat) : Int) * p2 (-(k : Int)), q_nonneg _ _, ?_, ?_, fun E => ?_⟩
    · have e : (1 : Rat) = ((2 ^ k : Int) : Rat) * p2 (-(k : Int)) := by
        rw [← p2_nat, ← p2_add, Int.add_right_neg]; rfl
      rw [e, rat_lt_iff]
      have : ((2 ^ k : Nat) : Int) = (2 : Int) ^ k := by push_cast; rfl
      omega
    · have e0 := rat_lt_iff (a := 0) (b := ((x % 2 ^ k : Nat) : Int)) (m := -(k : Int))
      rw [show ((0 : Int) : Rat) * p2 (-(k : Int)) = 0 by simp] at e0
      rw [e0]
      simp only [Bool.and_eq_true, decide_eq_true_eq, h3]
      omega
    · rw [hnk, p2_add]
      have e : ((x : Int) : Rat) = ((2 ^ k : Int) : Rat) * (((x / 2 ^ k : Nat) : Int) : Rat) + (((x % 2 ^ k : Nat) : Int) : Rat) := by
        rw [← Rat.intCast_mul, ← Rat.intCast_add]
        congr 1
        have : ((2 ^ k * (x / 2 ^ k) + x % 2 ^ k : Nat) : Int) = (2 : Int) ^ k * ((x / 2 ^ k : Nat) : Int) + ((x % 2 ^ k : Nat) : Int) := by push_cast; rfl
        rw [← this, h1]
      have e2 : ((2 ^ k : Int) : Rat) * p2 (-(k : Int)) = 1 := by rw [← p2_nat, ← p2_add, Int.add_right_neg]; rfl
      rw [e]
      generalize (((x / 2 ^ k : Nat) : Int) : Rat) = a at *
      generalize (((x % 2 ^ k : Nat) : Int) : Rat) = b at *
      generalize ((2 ^ k : Int) : Rat) = c at *
      generalize p2 (-(k : Int)) = d at *
      generalize p2 E = g at *
      have : (c * a + b) * (g * d) = (c * d) * a * g + b * d * g := by grind
      rw [this, e2]
      grind
theorem sh_big {x b : Nat} {n : Int} (hx : 2 ^ b ≤ x) (h : 0 ≤ (b : Int) + n) : 2 ^ ((b : Int) + n).toNat ≤ shN x n := by
  unfold shN
  by_cases h0 : 0 ≤ n
  · rw [if_pos h0, show ((b : Int) + n).toNat = b + n.toNat by omega, Nat.pow_add]
    exact Nat.mul_le_mul_right _ hx
  · rw [if_neg h0, Nat.le_div_iff_mul_le (Nat.pow_pos (by omega)), ← Nat.pow_add, show ((b : Int) + n).toNat + (-n).toNat = b by omega]
    exact hx
def quoS (P x y : Nat) : Int := (P : Int) + 2 - (bitsN x : Int) + (bitsN y : Int)
def quoM (P x y : Nat) : Bool := cutB x (quoS P x y) || decide (0 < shN x (quoS P x y) % y)
def quoD (P : Nat) (up : Bool) (x y : Dy) : Dy :=
  betD P up (decide (x.z < 0) != decide (y.z < 0)) (shN x.z.natAbs (quoS P x.z.natAbs y.z.natAbs) / y.z.natAbs) (x.e - y.e - quoS P x.z.natAbs y.z.natAbs) (quoM P x.z.natAbs y.z.natAbs)
theorem quo_core {P x y : Nat} (hx : x ≠ 0) (hy : y ≠ 0) (ex ey : Int) {T : Rat} (hT : T * (((y : Int) : Rat) * p2 ey) = ((x : Int) : Rat) * p2 ex) :
    (quoM P x y = true → (((shN x (quoS P x y) / y : Nat) : Int) : Rat) * p2 (ex - ey - quoS P x y) < T ∧ T < ((((shN x (quoS P x y) / y : Nat) : Int) + 1 : Int) : Rat) * p2 (ex - ey - quoS P x y)) ∧
    (quoM P x y = false → T = (((shN x (quoS P x y) / y : Nat) : Int) : Rat) * p2 (ex - ey - quoS P x y)) ∧ 2 ^ (P - 1) ≤ shN x (quoS P x y) / y := by
  obtain ⟨f, f0, f1, f2, f3⟩ := sh_spec hx (quoS P x y)
  obtain ⟨bx, x1, x2, x3⟩ := bitsN_spec hx
  obtain ⟨by_, y1, y2, y3⟩ := bitsN_spec hy
  have hbig := sh_big (n := quoS P x y) x2 (by unfold quoS; omega)
  have hM : quoM P x y = (cutB x (quoS P x y) || decide (0 < shN x (quoS P x y) % y)) := rfl
  have hex : ((bx : Int) + quoS P x y).toNat = P + 1 + (by_ + 1) := by unfold quoS; omega
  rw [hex] at hbig
  generalize hn : quoS P x y = n at *
  generalize shN x n = X at *
  generalize cutB x n = cb at *
  have g := f3 (ex - ey - n)
  generalize hE : ex - ey - n = E at *
  have h1 := Nat.div_add_mod X y
  have h2 := Nat.mod_lt X (Nat.pos_of_ne_zero hy)
  -- T y = (q y + r + f) 2^E
  have hpe : p2 ex = p2 (E + n) * p2 ey := by rw [← p2_add]; congr 1; omega
  have hy0 : (0 : Rat) < ((y : Int) : Rat) := by
    have : ((0 : Int) : Rat) < ((y : Int) : Rat) := Rat.intCast_lt_intCast.2 (by omega)
    simpa using this
  have hT2 : T * ((y : Int) : Rat) = (((X : Nat) : Int) : Rat) * p2 E + f * p2 E := by
    rw [← g]
    have e1 : (T * ((y : Int) : Rat)) * p2 ey = (((x : Int) : Rat) * p2 (E + n)) * p2 ey := by
      rw [Rat.mul_assoc, hT, hpe, Rat.mul_assoc]
    have := p2_pos ey
    exact rat_cancel this e1
  have hX : (((X : Nat) : Int) : Rat) = ((y : Int) : Rat) * (((X / y : Nat) : Int) : Rat) + (((X % y : Nat) : Int) : Rat) := by
    rw [← Rat.intCast_mul, ← Rat.intCast_add]
    congr 1
    have : ((y * (X / y) + X % y : Nat) : Int) = (y : Int) * ((X / y : Nat) : Int) + ((X % y : Nat) : Int) := by push_cast; rfl
    rw [← this, h1]
  have hr0 : (0 : Rat) ≤ (((X % y : Nat) : Int) : Rat) := by
    have : ((0 : Int) : Rat) ≤ (((X % y : Nat) : Int) : Rat) := Rat.intCast_le_intCast.2 (by omega)
    simpa using this
  have hr1 : (((X % y : Nat) : Int) : Rat) + 1 ≤ ((y : Int) : Rat) := by
    have : ((((X % y : Nat) : Int) + 1 : Int) : Rat) ≤ ((y : Int) : Rat) := Rat.intCast_le_intCast.2 (by omega)
    rwa [Rat.intCast_add] at this
  have hq1 : ((((X / y : Nat) : Int) + 1 : Int) : Rat) = (((X / y : Nat) : Int) : Rat) + 1 := by rw [Rat.intCast_add]; rfl
  have hrp : 0 < X % y ↔ (0 : Rat) < (((X % y : Nat) : Int) : Rat) := by
    have : ((0 : Int) : Rat) < (((X % y : Nat) : Int) : Rat) ↔ (0 : Int) < ((X % y : Nat) : Int) := Rat.intCast_lt_intCast
    rw [show ((0 : Int) : Rat) = 0 by rfl] at this
    rw [this]; omega
  have hbits : 2 ^ (P - 1) ≤ X / y := by
    rw [Nat.le_div_iff_mul_le (Nat.pos_of_ne_zero hy)]
    refine Nat.le_trans (Nat.mul_le_mul_left _ (Nat.le_of_lt y3)) ?_
    rw [← Nat.pow_add]
    exact Nat.le_trans (two_mono (by omega)) hbig
  have hp := p2_pos E
  rw [hX] at hT2
  rw [hM, hq1]
  generalize (((X / y : Nat) : Int) : Rat) = a at *
  generalize (((X % y : Nat) : Int) : Rat) = r at *
  generalize ((y : Int) : Rat) = c at *
  generalize p2 E = d at *
  -- (T - a d) c = (r + f) d
  have key : (T - a * d) * c = (r + f) * d := by grind
  refine ⟨fun hm => ?_, fun hm => ?_, hbits⟩
  · have hpos : 0 < r + f := by
      rw [Bool.or_eq_true] at hm
      rcases hm with h | h
      · have := f2.1 h; grind
      · have := hrp.1 (of_decide_eq_true h); grind
    have k1 : 0 < (T - a * d) * c := by rw [key]; exact Rat.mul_pos hpos hp
    have k2 : (T - a * d) * c < d * c := by
      rw [key, Rat.mul_comm d c]
      exact (Rat.mul_lt_mul_right hp).2 (by grind)
    have k3 := (Rat.mul_lt_mul_right hy0).1 k2
    have k4 : 0 * c < (T - a * d) * c := by grind
    have k5 := (Rat.mul_lt_mul_right hy0).1 k4
    constructor <;> grind
  · simp only [Bool.or_eq_false_iff, decide_eq_false_iff_not] at hm
    have e1 : f = 0 := by
      have := fun h => hm.1 ▸ (f2.2 h)
      have : ¬ 0 < f := fun h => by have := f2.2 h; rw [hm.1] at this; cases this
      grind
    have e2 : r = 0 := by have := fun h => hm.2 (hrp.2 h); grind
    rw [e1, e2] at key
    have k1 : (T - a * d) * c = 0 := by grind
    rcases Rat.mul_eq_zero.1 k1 with h | h
    · grind
    · grind
theorem abs_q (x : Dy) : ((x.z.natAbs : Int) : Rat) * p2 x.e = if decide (x.z < 0) then -x.q else x.q := by
  have h : x.q = if decide (x.z < 0) then -(((x.z.natAbs : Int) : Rat) * p2 x.e) else ((x.z.natAbs : Int) : Rat) * p2 x.e := by rw [← sg_q, sg_self]; rfl
  rw [h]
  cases decide (x.z < 0) <;> simp
  all_goals grind
theorem quo_rd {P : Nat} {up : Bool} {x y : Dy} {t : Rat} (hP : 1 ≤ P) (hx : x.z ≠ 0) (hy : y.z ≠ 0) (ht : t * y.q = x.q) : Rd P up (· ≤ t) (t ≤ ·) (quoD P up x y) := by
  have hx' := abs_q x
  have hy' := abs_q y
  obtain ⟨T, hT⟩ : ∃ T, T = if decide (x.z < 0) != decide (y.z < 0) then -t else t := ⟨_, rfl⟩
  have ht2 : t = if decide (x.z < 0) != decide (y.z < 0) then -T else T := by
    rw [hT]; cases decide (x.z < 0) <;> cases decide (y.z < 0) <;> simp
    all_goals grind
  have hc : T * (((y.z.natAbs : Int) : Rat) * p2 y.e) = ((x.z.natAbs : Int) : Rat) * p2 x.e := by
    rw [hx', hy', hT]
    cases decide (x.z < 0) <;> cases decide (y.z < 0) <;> simp <;> grind
  obtain ⟨h1, h2, h3⟩ := quo_core (P := P) (x := x.z.natAbs) (y := y.z.natAbs) (by omega) (by omega) x.e y.e hc
  rw [ht2]
  exact bet_rd hP h1 h2 (fun _ => h3)
end Go.Proofs.YtcknigodcjjahaaDoor
