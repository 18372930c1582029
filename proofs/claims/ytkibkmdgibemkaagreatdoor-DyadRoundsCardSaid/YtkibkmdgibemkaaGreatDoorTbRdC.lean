/-
  The reference's rounding, quotients and roots of dyads, plain: they are the program's.
-/
import Derived.Test.YtkibkmdgibemkaaGreatDoorTbGDyP
namespace Go.Proofs.YtkibkmdgibemkaaGreatDoor
set_option linter.unusedSimpArgs false

/-- Between two neighbours. -/
theorem rd_abs {P m : Nat} {up r1 : Bool} {E : Int} {le ge : Rat → Prop} (hP : 1 ≤ P) (hle : ∀ a b, a ≤ b → le b → le a) (hge : ∀ a b, a ≤ b → ge a → ge b)
    (h1 : r1 = true → le (((m : Int) : Rat) * p2 E) ∧ ¬ le ((((m : Int) + 1 : Int) : Rat) * p2 E) ∧ ge ((((m : Int) + 1 : Int) : Rat) * p2 E) ∧ ¬ ge (((m : Int) : Rat) * p2 E))
    (h2 : r1 = false → (∀ v, le v ↔ v ≤ ((m : Int) : Rat) * p2 E) ∧ (∀ v, ge v ↔ ((m : Int) : Rat) * p2 E ≤ v)) (hq : r1 = true → 2 ^ (P - 1) ≤ m) (hm : m < 2 ^ P) :
    Rd P up le ge (nrm (sg false (if r1 && up then m + 1 else m)) E) := by
  cases r1
  · obtain ⟨k1, k2⟩ := h2 rfl
    simp only [Bool.false_and, Bool.false_eq_true, if_false]
    refine ⟨nrm_can _ _, nrm_short _ _ _ hP (by omega), fun _ => ?_, fun _ => ?_⟩ <;> rw [nrm_q, sg_false]
    · exact ⟨(k1 _).2 Rat.le_refl, fun s _ h => (k1 _).1 h⟩
    · exact ⟨(k2 _).2 Rat.le_refl, fun s _ h => (k2 _).1 h⟩
  · obtain ⟨a1, a2, a3, a4⟩ := h1 rfl
    have hq := hq rfl
    have hc1 : ((m + 1 : Nat) : Int) = (m : Int) + 1 := by push_cast; rfl
    cases up
    · simp only [Bool.true_and, Bool.false_eq_true, if_false]
      refine ⟨nrm_can _ _, nrm_short _ _ _ hP (by omega), fun _ => ?_, fun h => by cases h⟩
      rw [nrm_q, sg_false]
      refine ⟨a1, fun s hs h => gap_le hP hq hs ?_⟩
      rcases rat_tri s.q ((((m : Int) + 1 : Int) : Rat) * p2 E) with h3 | h3 | h3
      · exact h3
      · exact absurd (h3 ▸ h) a2
      · exact absurd (hle _ _ (Rat.le_of_lt h3) h) a2
    · simp only [Bool.true_and, if_true]
      refine ⟨nrm_can _ _, nrm_short _ _ _ hP (by omega), fun h => (by cases h), fun _ => ?_⟩
      rw [nrm_q, sg_false, hc1]
      refine ⟨a3, fun s hs h => gap_ge hP hq hs ?_⟩
      rcases rat_tri s.q (((m : Int) : Rat) * p2 E) with h3 | h3 | h3
      · exact absurd (hge _ _ (Rat.le_of_lt h3) h) a4
      · exact absurd (h3 ▸ h) a4
      · exact h3
theorem sg_neg_q (k : Nat) (E : Int) : (nrm (sg true k) E).q = -(nrm (sg false k) E).q := by
  rw [nrm_q, nrm_q, sg_q, sg_q]
  rfl
/-- The other sign. -/
theorem rd_opp {P k : Nat} {up : Bool} {E : Int} {le ge : Rat → Prop} (hP : 1 ≤ P) (hk : k ≤ 2 ^ P) (h : Rd P (!up) le ge (nrm (sg false k) E)) : Rd P up (fun v => ge (-v)) (fun v => le (-v)) (nrm (sg true k) E) := by
  refine ⟨nrm_can _ _, nrm_short _ _ _ hP hk, fun hu => ?_, fun hu => ?_⟩ <;> subst hu <;> rw [sg_neg_q]
  · obtain ⟨h1, h2⟩ := h.upw rfl
    refine ⟨by simpa using h1, fun s hs hl => ?_⟩
    have h3 := h2 s.opp (opp_short hs) (by rw [opp_q]; exact hl)
    rw [opp_q] at h3
    grind
  · obtain ⟨h1, h2⟩ := h.dn rfl
    refine ⟨by simpa using h1, fun s hs hl => ?_⟩
    have h3 := h2 s.opp (opp_short hs) (by rw [opp_q]; exact hl)
    rw [opp_q] at h3
    grind
/-- The reference's cut. -/
def cutR (P : Nat) (up neg : Bool) (m : Nat) (e : Int) (rest : Bool) : Dy :=
  nrm (sg neg (if (rest || decide (m % 2 ^ (bitsN m - P) ≠ 0)) && (up != neg) then m / 2 ^ (bitsN m - P) + 1 else m / 2 ^ (bitsN m - P))) (e + ((bitsN m - P : Nat) : Int))
theorem cut_sizes {P m : Nat} (hP : 1 ≤ P) : m / 2 ^ (bitsN m - P) < 2 ^ P ∧ (2 ^ (P - 1) ≤ m ∨ m % 2 ^ (bitsN m - P) ≠ 0 → 2 ^ (P - 1) ≤ m / 2 ^ (bitsN m - P)) := by
  have hb := bitsN_lt m
  by_cases h0 : bitsN m ≤ P
  · have e : bitsN m - P = 0 := by omega
    have h1 := two_mono h0
    rw [e, Nat.pow_zero, Nat.div_one, Nat.mod_one]
    exact ⟨by omega, fun h => by rcases h with h | h; exact h; exact absurd rfl h⟩
  · obtain ⟨n, hn⟩ : ∃ n, bitsN m - P = n := ⟨_, rfl⟩
    have hm0 : m ≠ 0 := by rintro rfl; apply h0; unfold bitsN; simp
    obtain ⟨b, h1, h2, h3⟩ := bitsN_spec hm0
    rw [hn]
    have hp : 0 < 2 ^ n := Nat.pow_pos (by omega)
    constructor
    · rw [Nat.div_lt_iff_lt_mul hp, ← Nat.pow_add]
      rwa [show P + n = bitsN m by omega]
    · intro _
      rw [Nat.le_div_iff_mul_le hp, ← Nat.pow_add]
      rwa [show P - 1 + n = b by omega]
theorem cut_abs {P m : Nat} {up rest : Bool} {e : Int} {le ge : Rat → Prop} (hP : 1 ≤ P) (hle : ∀ a b, a ≤ b → le b → le a) (hge : ∀ a b, a ≤ b → ge a → ge b)
    (h1 : rest = true → le (((m : Int) : Rat) * p2 e) ∧ ¬ le ((((m : Int) + 1 : Int) : Rat) * p2 e) ∧ ge ((((m : Int) + 1 : Int) : Rat) * p2 e) ∧ ¬ ge (((m : Int) : Rat) * p2 e))
    (h2 : rest = false → (∀ v, le v ↔ v ≤ ((m : Int) : Rat) * p2 e) ∧ (∀ v, ge v ↔ ((m : Int) : Rat) * p2 e ≤ v)) (hq : rest = true → 2 ^ (P - 1) ≤ m) :
    Rd P up le ge (cutR P up false m e rest) := by
  obtain ⟨s1, s2⟩ := cut_sizes (m := m) hP
  unfold cutR
  rw [Bool.bne_false]
  generalize hn : bitsN m - P = n at *
  have hp : 0 < 2 ^ n := Nat.pow_pos (by omega)
  have hd := Nat.div_add_mod m (2 ^ n)
  have hr := Nat.mod_lt m hp
  obtain ⟨m1, hm1⟩ : ∃ m1, m / 2 ^ n = m1 := ⟨_, rfl⟩
  obtain ⟨r, hre⟩ : ∃ r, m % 2 ^ n = r := ⟨_, rfl⟩
  rw [hm1] at hd s1 s2 ⊢
  rw [hre] at hd hr s2 ⊢
  have d1 := q_down (m1 : Int) (e + (n : Int)) n
  have d2 := q_down ((m1 : Int) + 1) (e + (n : Int)) n
  rw [show e + (n : Int) - (n : Int) = e by omega] at d1 d2
  have c0 : ((2 ^ n * m1 : Nat) : Int) = (m1 : Int) * 2 ^ n := by push_cast; rw [Int.mul_comm]
  have c1 : ((2 ^ n * m1 + 2 ^ n : Nat) : Int) = ((m1 : Int) + 1) * 2 ^ n := by push_cast; rw [Int.add_mul, Int.one_mul, Int.mul_comm]
  have l1 : ((m1 : Int) : Rat) * p2 (e + (n : Int)) ≤ ((m : Int) : Rat) * p2 e := by rw [← d1, rat_le_iff]; omega
  have l2 : (((m : Int) + 1 : Int) : Rat) * p2 e ≤ (((m1 : Int) + 1 : Int) : Rat) * p2 (e + (n : Int)) := by rw [← d2, rat_le_iff]; omega
  have l3 : r ≠ 0 → ((m1 : Int) : Rat) * p2 (e + (n : Int)) < ((m : Int) : Rat) * p2 e := fun h => by rw [← d1, rat_lt_iff]; omega
  have l4 : r = 0 → ((m1 : Int) : Rat) * p2 (e + (n : Int)) = ((m : Int) : Rat) * p2 e := fun h => by rw [← d1, rat_eq_iff]; omega
  have l5 : ((m : Int) : Rat) * p2 e < (((m : Int) + 1 : Int) : Rat) * p2 e := by rw [rat_lt_iff]; omega
  clear d1 d2 c0 c1 hd hr hm1 hre hn
  refine rd_abs hP hle hge (fun hr1 => ?_) (fun hr0 => ?_) (fun hr1 => ?_) s1
  · cases rest
    · have hr : r ≠ 0 := by simpa using hr1
      obtain ⟨k1, k2⟩ := h2 rfl
      have l3 := l3 hr
      exact ⟨(k1 _).2 (Rat.le_of_lt l3), fun h => by have := (k1 _).1 h; grind, (k2 _).2 (by grind), fun h => by have := (k2 _).1 h; grind⟩
    · obtain ⟨a1, a2, a3, a4⟩ := h1 rfl
      exact ⟨hle _ _ l1 a1, fun h => a2 (hle _ _ l2 h), hge _ _ l2 a3, fun h => a4 (hge _ _ l1 h)⟩
  · obtain ⟨rfl, hr⟩ : rest = false ∧ r = 0 := by simpa using hr0
    rw [l4 hr]
    exact h2 rfl
  · apply s2
    cases rest
    · right; simpa using hr1
    · exact .inl (hq rfl)
theorem cut_rd {P m : Nat} {up neg rest : Bool} {e : Int} {T : Rat} (hP : 1 ≤ P) (h1 : rest = true → ((m : Int) : Rat) * p2 e < T ∧ T < (((m : Int) + 1 : Int) : Rat) * p2 e) (h2 : rest = false → T = ((m : Int) : Rat) * p2 e) (hq : rest = true → 2 ^ (P - 1) ≤ m) :
    Rd P up (· ≤ if neg then -T else T) ((if neg then -T else T) ≤ ·) (cutR P up neg m e rest) := by
  have key : ∀ up, Rd P up (· ≤ T) (T ≤ ·) (cutR P up false m e rest) := fun up => cut_abs hP (fun a b h h' => Rat.le_trans h h') (fun a b h h' => Rat.le_trans h' h) (fun hr => by
    obtain ⟨a1, a2⟩ := h1 hr
    exact ⟨Rat.le_of_lt a1, by grind, Rat.le_of_lt a2, by grind⟩) (fun hr => by
    rw [h2 hr]
    exact ⟨fun v => Iff.rfl, fun v => Iff.rfl⟩) hq
  cases neg
  · exact key up
  · have h := key (!up)
    obtain ⟨s1, -⟩ := cut_sizes (m := m) hP
    unfold cutR at h ⊢
    rw [Bool.bne_false] at h
    rw [Bool.bne_true]
    have h3 := rd_opp hP (by split <;> omega) h
    exact h3.congr (fun s _ => by simp only [if_true]; grind) (fun s _ => by simp only [if_true]; grind)
theorem leRt_down {X a b : Rat} (h : a ≤ b) (hb : leRt X b) : leRt X a := by
  rcases hb with hb | hb
  · exact .inl (Rat.le_trans h hb)
  · rcases rat_tri a 0 with h0 | h0 | h0
    · exact .inl (Rat.le_of_lt h0)
    · exact .inl (by rw [h0]; exact Rat.le_refl)
    · exact .inr (Rat.le_trans (sq_le (Rat.le_of_lt h0) h) hb)
theorem geRt_up {X a b : Rat} (h : a ≤ b) (ha : geRt X a) : geRt X b := ⟨Rat.le_trans ha.1 h, Rat.le_trans ha.2 (sq_le ha.1 h)⟩
theorem cut_rt {P m : Nat} {up rest : Bool} {e : Int} {X : Rat} (hP : 1 ≤ P)
    (h1 : rest = true → (((m : Int) : Rat) * p2 e) * (((m : Int) : Rat) * p2 e) < X ∧ X < ((((m : Int) + 1 : Int) : Rat) * p2 e) * ((((m : Int) + 1 : Int) : Rat) * p2 e))
    (h2 : rest = false → X = (((m : Int) : Rat) * p2 e) * (((m : Int) : Rat) * p2 e)) (hq : rest = true → 2 ^ (P - 1) ≤ m) :
    Rd P up (leRt X) (geRt X) (cutR P up false m e rest) := by
  have q0 := q_nonneg m e
  have q1 : (0 : Rat) < (((m : Int) + 1 : Int) : Rat) * p2 e := by
    have h := rat_lt_iff (a := (m : Int)) (b := (m : Int) + 1) (m := e)
    have := h.2 (by omega)
    grind
  refine cut_abs hP (fun a b => leRt_down) (fun a b => geRt_up) (fun hr => ?_) (fun hr => ?_) hq
  · obtain ⟨a1, a2⟩ := h1 hr
    refine ⟨.inr (Rat.le_of_lt a1), fun h => ?_, ⟨Rat.le_of_lt q1, Rat.le_of_lt a2⟩, fun h => ?_⟩
    · rcases h with h | h <;> grind
    · have := h.2
      grind
  · have hX := h2 hr
    generalize ((m : Int) : Rat) * p2 e = A at *
    subst hX
    refine ⟨fun v => ⟨fun h => ?_, fun h => ?_⟩, fun v => ⟨fun h => sq_le_of h.1 h.2, fun h => ⟨Rat.le_trans q0 h, sq_le q0 h⟩⟩⟩
    · rcases h with h | h
      · exact Rat.le_trans h q0
      · exact sq_le_of q0 h
    · exact leRt_down h (.inr Rat.le_refl)
theorem signed_q (x : Dy) : (if decide (x.z < 0) then -(((x.z.natAbs : Int) : Rat) * p2 x.e) else ((x.z.natAbs : Int) : Rat) * p2 x.e) = x.q := by
  rw [← sg_q, sg_self]
  rfl
/-- The reference's rounding. -/
theorem rnd_ref {P : Nat} {up : Bool} {x : Dy} (hP : 1 ≤ P) : cutR P up (decide (x.z < 0)) x.z.natAbs x.e false = rndD P up x := by
  have h := cut_rd (P := P) (up := up) (neg := decide (x.z < 0)) (m := x.z.natAbs) (e := x.e) (rest := false) (T := ((x.z.natAbs : Int) : Rat) * p2 x.e) hP (fun h => by cases h) (fun _ => rfl) (fun h => by cases h)
  rw [signed_q] at h
  exact h.unique (rnd_rd P up x hP)
/-- The reference's quotients. -/
def quoRn (P : Nat) (x y : Dy) : Nat := P + 2 + bitsN y.z.natAbs - bitsN x.z.natAbs
def quoR (P : Nat) (up : Bool) (x y : Dy) : Dy := cutR P up (decide (x.z < 0) != decide (y.z < 0)) (x.z.natAbs * 2 ^ quoRn P x y / y.z.natAbs) (x.e - y.e - (quoRn P x y : Int)) (decide (0 < x.z.natAbs * 2 ^ quoRn P x y % y.z.natAbs))
theorem cutR_zero (P : Nat) (up neg : Bool) (e : Int) : cutR P up neg 0 e false = ⟨0, 0⟩ := by
  unfold cutR
  simp [sg_zero, nrm_zero]
theorem quo_ref {P : Nat} {up : Bool} {x y : Dy} (hP : 1 ≤ P) (hy : y.z ≠ 0) : quoR P up x y = quoQ P up x y := by
  unfold quoR quoQ
  rw [if_neg hy]
  by_cases hx : x.z = 0
  · rw [if_pos hx, hx]
    simp [cutR_zero]
  · rw [if_neg hx]
    obtain ⟨bx, x1, x2, x3⟩ := bitsN_spec (n := x.z.natAbs) (by omega)
    obtain ⟨b, y1, y2, y3⟩ := bitsN_spec (n := y.z.natAbs) (by omega)
    have hyq : y.q ≠ 0 := fun h => hy (q_zero.1 h)
    obtain ⟨t, ht⟩ : ∃ t : Rat, t * y.q = x.q := ⟨x.q / y.q, by rw [Rat.div_mul_cancel hyq]⟩
    refine Rd.unique ?_ (quo_rd hP hx hy ht)
    have hx' := abs_q x
    have hy' := abs_q y
    obtain ⟨T, hT⟩ : ∃ T, T = if decide (x.z < 0) != decide (y.z < 0) then -t else t := ⟨_, rfl⟩
    have ht2 : t = if decide (x.z < 0) != decide (y.z < 0) then -T else T := by
      rw [hT]; cases decide (x.z < 0) <;> cases decide (y.z < 0) <;> simp
      all_goals grind
    have hc : T * (((y.z.natAbs : Int) : Rat) * p2 y.e) = ((x.z.natAbs : Int) : Rat) * p2 x.e := by
      rw [hx', hy', hT]
      cases decide (x.z < 0) <;> cases decide (y.z < 0) <;> simp <;> grind
    rw [ht2]
    have hn : quoRn P x y = P + 2 + bitsN y.z.natAbs - bitsN x.z.natAbs := rfl
    generalize quoRn P x y = n at *
    generalize x.z.natAbs = X at *
    generalize y.z.natAbs = Y at *
    have hY0 : 0 < Y := by have : 0 < 2 ^ b := Nat.pow_pos (by omega); omega
    have hd := Nat.div_add_mod (X * 2 ^ n) Y
    have hm := Nat.mod_lt (X * 2 ^ n) hY0
    have hbig : 2 ^ (P - 1) ≤ X * 2 ^ n / Y := by
      rw [Nat.le_div_iff_mul_le hY0]
      have h1 : 2 ^ (P - 1) * Y ≤ 2 ^ (P - 1) * 2 ^ (b + 1) := Nat.mul_le_mul_left _ (Nat.le_of_lt y3)
      have h2 : 2 ^ bx * 2 ^ n ≤ X * 2 ^ n := Nat.mul_le_mul_right _ x2
      rw [← Nat.pow_add] at h1 h2
      have h3 := two_mono (show P - 1 + (b + 1) ≤ bx + n by omega)
      omega
    generalize X * 2 ^ n / Y = q at *
    generalize hr : X * 2 ^ n % Y = r at *
    -- the quotient at its exponent
    have e1 := q_down (X : Int) x.e n
    have e2 : (((X : Int) * 2 ^ n : Int) : Rat) = ((((Y * q + r : Nat) : Int)) : Rat) := by rw [hd]; push_cast; rfl
    have e3 : T * (((Y : Int) : Rat) * p2 y.e) = (((Y * q + r : Nat) : Int) : Rat) * p2 (x.e - (n : Int)) := by rw [hc, ← e1, e2]
    have e4 : p2 (x.e - (n : Int)) = p2 y.e * p2 (x.e - y.e - (n : Int)) := by rw [← p2_add]; congr 1; omega
    have hyp := p2_pos y.e
    have hYr : (0 : Rat) < ((Y : Int) : Rat) := by
      have := (Rat.intCast_lt_intCast (a := 0) (b := (Y : Int))).2 (by omega)
      simpa using this
    rw [e4] at e3
    generalize x.e - y.e - (n : Int) = E at *
    have e5 : T * ((Y : Int) : Rat) = (((Y * q + r : Nat) : Int) : Rat) * p2 E := by
      apply rat_cancel hyp
      rw [Rat.mul_assoc, e3]
      grind
    have hEp := p2_pos E
    have e6 : (((Y * q + r : Nat) : Int) : Rat) = ((Y : Int) : Rat) * ((q : Int) : Rat) + ((r : Int) : Rat) := by rw [Int.natCast_add, Int.natCast_mul, Rat.intCast_add, Rat.intCast_mul]
    rw [e6] at e5
    have hrY : ((r : Int) : Rat) < ((Y : Int) : Rat) := (Rat.intCast_lt_intCast).2 (by omega)
    have hq1 : (((q : Int) + 1 : Int) : Rat) = ((q : Int) : Rat) + 1 := by rw [Rat.intCast_add]; rfl
    clear e1 e2 e3 e4 e6 hx' hy' hc hT ht2
    refine cut_rd hP (fun hrest => ?_) (fun hrest => ?_) (fun _ => hbig)
    · have hr0 : 0 < r := by simpa using hrest
      have hrp : (0 : Rat) < ((r : Int) : Rat) := by
        have := (Rat.intCast_lt_intCast (a := 0) (b := (r : Int))).2 (by omega)
        simpa using this
      rw [hq1]
      generalize ((r : Int) : Rat) = R at *
      generalize ((q : Int) : Rat) = Q at *
      generalize ((Y : Int) : Rat) = V at *
      generalize p2 E = W at *
      have m1 : 0 < R * W := Rat.mul_pos hrp hEp
      have m2 : 0 < (V - R) * W := Rat.mul_pos (by grind) hEp
      have k1 : Q * W * V < T * V := by grind
      have k2 : T * V < (Q + 1) * W * V := by grind
      exact ⟨(Rat.mul_lt_mul_right hYr).1 k1, (Rat.mul_lt_mul_right hYr).1 k2⟩
    · have hr0 : r = 0 := by have : ¬ 0 < r := by simpa using hrest
                             omega
      subst hr0
      apply rat_cancel hYr
      rw [e5]
      simp
      grind
/-- The reference's roots. -/
def sqrRn (P : Nat) (x : Dy) : Nat := if (x.e - ((2 * P + 4 - bitsN x.z.natAbs : Nat) : Int)) % 2 = 0 then 2 * P + 4 - bitsN x.z.natAbs else 2 * P + 4 - bitsN x.z.natAbs + 1
def sqrR (P : Nat) (up : Bool) (x : Dy) : Dy := cutR P up false (rootN (x.z.natAbs * 2 ^ sqrRn P x)) ((x.e - (sqrRn P x : Int)) / 2) (decide (rootN (x.z.natAbs * 2 ^ sqrRn P x) * rootN (x.z.natAbs * 2 ^ sqrRn P x) ≠ x.z.natAbs * 2 ^ sqrRn P x))
theorem root_zero : rootN 0 = 0 := root_is (by omega) (by omega)
theorem sqr_ref {P : Nat} {up : Bool} {x : Dy} (hP : 1 ≤ P) (hx : 0 ≤ x.z) : sqrR P up x = sqrtQ P up x := by
  unfold sqrR sqrtQ
  by_cases h0 : x.z = 0
  · rw [if_pos (by omega), h0]
    simp [root_zero, cutR_zero]
  · rw [if_neg (by omega)]
    refine Rd.unique ?_ (sqrt_rd hP (by omega))
    obtain ⟨b, x1, x2, x3⟩ := bitsN_spec (n := x.z.natAbs) (by omega)
    have hq : x.q = ((x.z.natAbs : Int) : Rat) * p2 x.e := by
      have := abs_q x
      rw [decide_eq_false (by omega)] at this
      exact this.symm
    have hev : (x.e - (sqrRn P x : Int)) % 2 = 0 := by unfold sqrRn; split <;> omega
    have hn : 2 * P + 4 - bitsN x.z.natAbs ≤ sqrRn P x := by unfold sqrRn; split <;> omega
    have e1 := q_down (x.z.natAbs : Int) x.e (sqrRn P x)
    rw [← hq] at e1
    generalize sqrRn P x = n at *
    have e2 : ((x.z.natAbs : Int) * 2 ^ n : Int) = ((x.z.natAbs * 2 ^ n : Nat) : Int) := by push_cast; rfl
    rw [e2] at e1
    have hM : 2 ^ (2 * P + 3) ≤ x.z.natAbs * 2 ^ n := by
      have h1 : 2 ^ b * 2 ^ n ≤ x.z.natAbs * 2 ^ n := Nat.mul_le_mul_right _ x2
      rw [← Nat.pow_add] at h1
      have := two_mono (show 2 * P + 3 ≤ b + n by omega)
      omega
    generalize x.z.natAbs * 2 ^ n = M at *
    obtain ⟨r1, r2⟩ := rootN_is M
    generalize rootN M = r at *
    obtain ⟨F, hF⟩ : ∃ F, x.e - (n : Int) = F + F := ⟨(x.e - (n : Int)) / 2, by omega⟩
    rw [hF] at e1 ⊢
    rw [show (F + F) / 2 = F by omega]
    rw [p2_add] at e1
    have hbig : 2 ^ (P - 1) ≤ r := by
      apply Decidable.byContradiction
      intro hc
      have h1 : (r + 1) * (r + 1) ≤ 2 ^ P * 2 ^ P := by
        have h3 : r + 1 ≤ 2 ^ P := Nat.le_trans (by omega) (two_mono (show P - 1 ≤ P by omega))
        exact Nat.mul_le_mul h3 h3
      rw [← Nat.pow_add] at h1
      have := two_mono (show P + P ≤ 2 * P + 3 by omega)
      omega
    have c1 : ((r * r : Nat) : Int) = (r : Int) * (r : Int) := by push_cast; rfl
    have sqe : ∀ k : Int, (((k : Int) : Rat) * p2 F) * (((k : Int) : Rat) * p2 F) = ((k * k : Int) : Rat) * (p2 F * p2 F) := fun k => by rw [Rat.intCast_mul]; grind
    have hpp : p2 F * p2 F = p2 (F + F) := (p2_add F F).symm
    refine cut_rt hP (fun hrest => ?_) (fun hrest => ?_) (fun _ => hbig)
    · have hne : r * r ≠ M := by simpa using hrest
      rw [sqe, sqe, ← e1, hpp, rat_lt_iff, rat_lt_iff]
      have c2 : (((r + 1) * (r + 1) : Nat) : Int) = ((r : Int) + 1) * ((r : Int) + 1) := by push_cast; rfl
      omega
    · have he : r * r = M := by simpa using hrest
      rw [sqe, ← e1, ← he, c1]
end Go.Proofs.YtkibkmdgibemkaaGreatDoor
