/-
  The reference's rounding, quotients and roots of dyads, plain: they are the program's.
-/
import Derived.Test.YtgiejjpemhceiaaDoorTeGDyP
namespace Go.Proofs.YtgiejjpemhceiaaDoor
set_option linter.unusedSimpArgs false

theorem rd_abs {P m : Nat} {up r1 : Bool} {E : Int} {le ge : Rat → Prop} (hP : 1 ≤ P) (hle : ∀ a b, a ≤ b → le b → le a) (hge : ∀ a b, a ≤ b → ge a → ge b)
    (h1 : r1 = true → le (((m : Int) : Rat) * p2 E) ∧ ¬ le ((((m : Int) + 1 : Int) : Rat) * p2 E) ∧ ge ((((m : Int) + 1 : Int) : Rat) * p2 E) ∧ ¬ ge (((m : Int) : Rat) * p2 E))
    (h2 : r1 = false → (∀ v, le v ↔ v ≤ ((m : Int) : Rat) * p2 E) ∧ (∀ v, ge v ↔ ((m : Int) : Rat) * p2 E ≤ v)) (hq : r1 = true → 2 ^ (P - 1) ≤ m) (hm : m < 2 ^ P) :
    Rd P up le ge (nrm (sg false (if r1 && up then m + 1 else m)) E) := by
  cases r1
  · obtain ⟨k1, k2⟩ := h2 rfl
    simp only [Bool.false_and, Bool.false_eq_true, if_false]
    refine ⟨nrm_can _ _, nrm_short _ _ _ hP (by omega), fun _ => ?_, fun _ => ?_⟩ <;> rw [nrm_q, sg_false]
    · exact ⟨(k1 _).2 Rat.le_refl, fun s _ h => (k1 _).1 h⟩
    · exact ⟨(k2 _).2 Rat.le_refl, fun s _ h => (k2 _).1 h⟩
  · obtain ⟨a1, a2, a3, a4⟩ := h1 rfl
    have hq := hq rfl
    have hc1 : ((m + 1 : Nat) : Int) = (m : Int) + 1 := by push_cast; rfl
    cases up
    · simp only [Bool.true_and, Bool.false_eq_true, if_false]
      refine ⟨nrm_can _ _, nrm_short _ _ _ hP (by omega), fun _ => ?_, fun h => by cases h⟩
      rw [nrm_q, sg_false]
      refine ⟨a1, fun s hs h => gap_le hP hq hs ?_⟩
      rcases rat_tri s.q ((((m : Int) + 1 : Int) : Rat) * p2 E) with h3 | h3 | h3
      · exact h3
      · exact absurd (h3 ▸ h) a2
      · exact absurd (hle _ _ (Rat.le_of_lt h3) h) a2
    · simp only [Bool.true_and, if_true]
      refine ⟨nrm_can _ _, nrm_short _ _ _ hP (by omega), fun h => (by cases h), fun _ => ?_⟩
      rw [nrm_q, sg_false, hc1]
      refine ⟨a3, fun s hs h => gap_ge hP hq hs ?_⟩
      rcases rat_tri s.q (((m : Int) : Rat) * p2 E) with h3 | h3 | h3
      · exact absurd (hge _ _ (Rat.le_of_lt h3) h) a4
      · exact absurd (h3 ▸ h) a4
      · exact h3
theorem sg_neg_q (k : Nat) (E : Int) : (nrm (sg true k) E).q = -(nrm (sg false k) E).q := by
  rw [nrm_q, nrm_q, sg_q, sg_q]
  rfl
theorem rd_opp {P k : Nat} {up : Bool} {E : Int} {le ge : Rat → Prop} (hP : 1 ≤ P) (hk : k ≤ 2 ^ P) (h : Rd P (!up) le ge (nrm (sg false k) E)) : Rd P up (fun v => ge (-v)) (fun v => le (-v)) (nrm (sg true k) E) := by
  refine ⟨nrm_can _ _, nrm_short _ _ _ hP hk, fun hu => ?_, fun hu => ?_⟩ <;> subst hu <;> rw [sg_neg_q]
  · obtain ⟨h1, h2⟩ := h.upw rfl
    refine ⟨by simpa using h1, fun s hs hl => ?_⟩
    have h3 := h2 s.opp (opp_short hs) (by rw [opp_q]; exact hl)
    rw [opp_q] at h3
    grind
  · obtain ⟨h1, h2⟩ := h.dn rfl
    refine ⟨by simpa using h1, fun s hs hl => ?_⟩
    have h3 := h2 s.opp (opp_short hs) (by rw [opp_q]; exact hl)
    rw [opp_q] at h3
    grind
def cutR (P : Nat) (up neg : Bool) (m : Nat) (e : Int) (rest : Bool) : Dy :=
  nrm (sg neg (if (rest || decide (m % 2 ^ (bitsN m - P) ≠ 0)) && (up != neg) then m / 2 ^ (bitsN m - P) + 1 else m / 2 ^ (bitsN m - P))) (e + ((bitsN m - P : Nat) : Int))
theorem cut_sizes {P m : Nat} (hP : 1 ≤ P) : m / 2 ^ (bitsN m - P) < 2 ^ P ∧ (2 ^ (P - 1) ≤ m ∨ m % 2 ^ (bitsN m - P) ≠ 0 → 2 ^ (P - 1) ≤ m / 2 ^ (bitsN m - P)) := by
  have hb := bitsN_lt m
  by_cases h0 : bitsN m ≤ P
  · have e : bitsN m - P = 0 := by omega
    have h1 := two_mono h0
    rw [e, Nat.pow_zero, Nat.div_one, Nat.mod_one]
    exact ⟨by omega, fun h => by rcases h with h | h; exact h; exact absurd rfl h⟩
  · obtain ⟨n, hn⟩ : ∃ n, bitsN m - P = n := ⟨_, rfl⟩
    have hm0 : m ≠ 0 := by rintro rfl; apply h0; unfold bitsN; simp
    obtain ⟨b, h1, h2, h3⟩ := bitsN_spec hm0
    rw [hn]
    have hp : 0 < 2 ^ n := Nat.pow_pos (by omega)
    constructor
    · rw [Nat.div_lt_iff_lt_mul hp, ← Nat.pow_add]
      rwa [show P + n = bitsN m by omega]
    · intro _
      rw [Nat.le_div_iff_mul_le hp, ← Nat.pow_add]
      rwa [show P - 1 + n = b by omega]
theorem cut_abs {P m : Nat} {up rest : Bool} {e : Int} {le ge : Rat → Prop} (hP : 1 ≤ P) (hle : ∀ a b, a ≤ b → le b → le a) (hge : ∀ a b, a ≤ b → ge a → ge b)
    (h1 : rest = true → le (((m : Int) : Rat) * p2 e) ∧ ¬ le ((((m : Int) + 1 : Int) : Rat) * p2 e) ∧ ge ((((m : Int) + 1 : Int) : Rat) * p2 e) ∧ ¬ ge (((m : Int) : Rat) * p2 e))
    (h2 : rest = false → (∀ v, le v ↔ v ≤ ((m : Int) : Rat) * p2 e) ∧ (∀ v, ge v ↔ ((m : Int) : Rat) * p2 e ≤ v)) (hq : rest = true → 2 ^ (P - 1) ≤ m) :
    Rd P up le ge (cutR P up false m e rest) := by
  obtain ⟨s1, s2⟩ := cut_sizes (m := m) hP
  unfold cutR
  rw [Bool.bne_false]
  generalize hn : bitsN m - P = n at *
  have hp : 0 < 2 ^ n := Nat.pow_pos (by omega)
  have hd := Nat.div_add_mod m (2 ^ n)
  have hr := Nat.mod_lt m hp
  obtain ⟨m1, hm1⟩ : ∃ m1, m / 2 ^ n = m1 := ⟨_, rfl⟩
  obtain ⟨r, hre⟩ : ∃ r, m % 2 ^ n = r := ⟨_, rfl⟩
  rw [hm1] at hd s1 s2 ⊢
  rw [hre] at hd hr s2 ⊢
  have d1 := q_down (m1 : Int) (e + (n : Int)) n
  have d2 := q_down ((m1 : Int) + 1) (e + (n : Int)) n
  rw [show e + (n : Int) - (n : Int) = e by omega] at d1 d2
  have c0 : ((2 ^ n * m1 : Nat) : Int) = (m1 : Int) * 2 ^ n := by push_cast; rw [Int.mul_comm]
  have c1 : ((2 ^ n * m1 + 2 ^ n : Nat) : Int) = ((m1 : Int) + 1) * 2 ^ n := by push_cast; rw [Int.add_mul, Int.one_mul, Int.mul_comm]
  have l1 : ((m1 : Int) : Rat) * p2 (e + (n : Int)) ≤ ((m : Int) : Rat) * p2 e := by rw [← d1, rat_le_iff]; omega
  have l2 : (((m : Int) + 1 : Int) : Rat) * p2 e ≤ (((m1 : Int) + 1 : Int) : Rat) * p2 (e + (n : Int)) := by rw [← d2, rat_le_iff]; omega
  have l3 : r ≠ 0 → ((m1 : Int) : Rat) * p2 (e + (n : Int)) < ((m : Int) : Rat) * p2 e := fun h => by rw [← d1, rat_lt_iff]; omega
  have l4 : r = 0 → ((m1 : Int) : Rat) * p2 (e + (n : Int)) = ((m : Int) : Rat) * p2 e := fun h => by rw [← d1, rat_eq_iff]; omega
  have l5 : ((m : Int) : Rat) * p2 e < (((m : Int) + 1 : Int) : Rat) * p2 e := by rw [rat_lt_iff]; omega
  clear d1 d2 c0 c1 hd hr hm1 hre hn
  refine rd_abs hP hle hge (fun hr1 => ?_) (fun hr0 => ?_) (fun hr1 => ?_) s1
  · cases rest
    · have hr : r ≠ 0 := by simpa using hr1
      obtain ⟨k1, k2⟩ := h2 rfl
      have l3 := l3 hr
      exact ⟨(k1 _).2 (Rat.le_of_lt l3), fun h => by have := (k1 _).1 h; grind, (k2 _).2 (by grind), fun h => by have := (k2 _).1 h; grind⟩
    · obtain ⟨a1, a2, a3, a4⟩ := h1 rfl
      exact ⟨hle _ _ l1 a1, fun h => a2 (hle _ _ l2 h), hge _ _ l2 a3, fun h => a4 (hge _ _ l1 h)⟩
  · obtain ⟨rfl, hr⟩ : rest = false ∧ r = 0 := by simpa using hr0
    rw [l4 hr]
    exact h2 rfl
  · apply s2
    cases rest
    · right; simpa using hr1
    · exact .inl (hq rfl)
theorem cut_rd {P m : Nat} {up neg rest : Bool} {e : Int} {T : Rat} (hP : 1 ≤ P) (h1 : rest = true → ((m : Int) : Rat) * p2 e < T ∧ T < (((m : Int) + 1 : Int) : Rat) * p2 e) (h2 : rest = false → T = ((m : Int) : Rat) * p2 e) (hq : rest = true → 2 ^ (P - 1) ≤ m) :
    Rd P up (· ≤ if neg then -T else T) ((if neg then -T else T) ≤ ·) (cutR P up neg m e rest) := by
  have key : ∀ up, Rd P up (· ≤ T) (T ≤ ·) (cutR P up false m e rest) := fun up => cut_abs hP (fun a b h h' => Rat.le_trans h h') (fun a b h h' => Rat.le_trans h' h) (fun hr => by
    obtain ⟨a1, a2⟩ := h1 hr
    exact ⟨Rat.le_of_lt a1, by grind, Rat.le_of_lt a2, by grind⟩) (fun hr => by
    rw [h2 hr]
    exact ⟨fun v => Iff.rfl, fun v => Iff.rfl⟩) hq
  cases neg
  · exact key up
  · have h := key (!up)
    obtain ⟨s1, -⟩ := cut_sizes (m := m) hP
    unfold cutR at h ⊢
    rw [Bool.bne_false] at h
    rw [Bool.bne_true]
    have h3 := rd_opp hP (by split <;> omega) h
    exact h3.congr (fun s _ => by simp only [if_true]; grind) (fun s _ => by simp only [if_true]; grind)
theorem signed_q (x : Dy) : (if decide (x.z < 0) then -(((x.z.natAbs : Int) : Rat) * p2 x.e) else ((x.z.natAbs : Int) : Rat) * p2 x.e) = x.q := by
  rw [← sg_q, sg_self]
  rfl
theorem rnd_ref {P : Nat} {up : Bool} {x : Dy} (hP : 1 ≤ P) : cutR P up (decide (x.z < 0)) x.z.natAbs x.e false = rndD P up x := by
  have h := cut_rd (P := P) (up := up) (neg := decide (x.z < 0)) (m := x.z.natAbs) (e := x.e) (rest := false) (T := ((x.z.natAbs : Int) : Rat) * p2 x.e) hP (fun h => by cases h) (fun _ => rfl) (fun h => by cases h)
  rw [signed_q] at h
  exact h.unique (rnd_rd P up x hP)
end Go.Proofs.YtgiejjpemhceiaaDoor
