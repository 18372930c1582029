/-
  Floats, plain: a step; the two words beside a number; powers of two; sums.
-/
import Derived.Test.YtgiejjpemhceiaaDoorFlX
namespace Go.Proofs.YtgiejjpemhceiaaDoor
set_option linter.unusedSimpArgs false

namespace Fl
/-- flo.Step. -/
def stepW (up : Bool) (s : Bool) (r : Nat) : Nat := if INF < r then wordB s r else if r = 0 then wordB (!up) 1 else if r = INF ∧ s = !up then wordB s r else if (!s) = up then wordB s r + 1 else wordB s r - 1
theorem cmp_beq (x y : Int) (o : Ordering) : (some (compare x y) == some o) = decide (compare x y = o) := by
  rw [Bool.eq_iff_iff]; simp
theorem inf_val : INF = 9218868437227405312 := rfl
theorem word_suc (s : Bool) (r : Nat) : wordB s r + 1 = wordB s (r + 1) := by cases s <;> simp [wordB] <;> omega
theorem word_pre (s : Bool) {r : Nat} (h : 0 < r) : wordB s r - 1 = wordB s (r - 1) := by cases s <;> simp [wordB] <;> omega
theorem word_zero : wordB false 0 = 0 := rfl
theorem fD_le {a : Bool} {r : Nat} {q : Rat} (h : (if a then -ru r else ru r) ≤ q) : (fD a r).q ≤ q := by
  rw [fD_q]
  cases a
  · simpa [sg, ru] using h
  · have e : ((sg true (NR r) : Int) : Rat) * p2 (-1074) = -ru r := by
      unfold ru sg
      simp only [if_true]
      push_cast
      rw [Rat.neg_mul]
    rw [e]
    exact h
theorem fD_ge {a : Bool} {r : Nat} {q : Rat} (h : q ≤ (if a then -ru r else ru r)) : q ≤ (fD a r).q := by
  rw [fD_q]
  cases a
  · simpa [sg, ru] using h
  · have e : ((sg true (NR r) : Int) : Rat) * p2 (-1074) = -ru r := by
      unfold ru sg
      simp only [if_true]
      push_cast
      rw [Rat.neg_mul]
    rw [e]
    exact h
theorem fD_val (a : Bool) (r : Nat) : (fD a r).q = (if a then -ru r else ru r) := rat_le_antisymm (fD_le (by grind)) (fD_ge (by grind))
/-- The two words beside a number. -/
theorem between_law (x : Dy) : ∃ a r b s, flW false x = wordB a r ∧ flW true x = wordB b s ∧ r ≤ INF ∧ s ≤ INF ∧ (r < INF ∨ s < INF) ∧ (r < INF → (fD a r).q ≤ x.q) ∧ (s < INF → x.q ≤ (fD b s).q) ∧
    (sg a r = sg b s ∨ (sg a r < sg b s ∧ ∃ c t, stepW true a r = wordB c t ∧ t ≤ INF ∧ sg c t = sg b s)) := by
  by_cases h : x.z = 0
  · have e : ∀ up, flW up x = wordB false 0 := fun up => by unfold flW; rw [if_pos h]; rfl
    have hq : x.q = 0 := q_zero.2 h
    refine ⟨false, 0, false, 0, e _, e _, by omega, by omega, .inl (by decide), fun _ => fD_le ?_, fun _ => fD_ge ?_, .inl rfl⟩
    · rw [hq]; simp only [Bool.false_eq_true, if_false, ru_zero]; exact Rat.le_refl
    · rw [hq]; simp only [Bool.false_eq_true, if_false, ru_zero]; exact Rat.le_refl
  · obtain ⟨f, ex, hb, h1⟩ := flW_spec false h
    obtain ⟨f', ex', hb', h2⟩ := flW_spec true h
    obtain ⟨rfl, rfl⟩ := hb.one hb'
    clear hb'
    have hlo := hb.lo
    have hhi := hb.hi
    have hex := hb.ex
    have hxq := q_aq x
    have hap := aq_pos h
    have hf0 : ex = true → f ≠ 0 := fun he hc => by
      have := hex.1 he
      rw [hc, ru_zero] at this
      grind
    obtain ⟨F, hF⟩ : ∃ F, (if ex then f else f + 1) = F := ⟨_, rfl⟩
    rw [hF] at h1 h2
    have hFq : aq x ≤ ru F := by
      rw [← hF]
      cases ex
      · simp only [Bool.false_eq_true, if_false]; grind
      · simp only [if_true]; have := hex.1 rfl; grind
    have hFf : (F = f ∧ f ≠ 0) ∨ F = f + 1 := by
      rw [← hF]
      cases ex
      · right; rfl
      · left; exact ⟨rfl, hf0 rfl⟩
    clear hex hf0 hF hhi
    by_cases hx : x.z < 0
    · rw [decide_eq_true hx] at h1 h2 hxq
      simp only [bne_self_eq_false, Bool.false_eq_true, if_false, if_true, Bool.true_bne, Bool.not_false] at h1 h2 hxq
      have h2' : flW true x = wordB (decide (f ≠ 0)) (min f (INF - 1)) := by
        rw [h2]
        by_cases h0 : f = 0
        · subst h0; rfl
        · rw [if_neg h0, decide_eq_true h0]
      refine ⟨true, min F INF, decide (f ≠ 0), min f (INF - 1), h1, h2', by omega, by rw [inf_val]; omega, .inr (by rw [inf_val]; omega), fun hr => fD_le ?_, fun _ => fD_ge ?_, ?_⟩
      · rw [Nat.min_eq_left (by omega)]
        simp only [if_true]
        grind
      · have h3 : ru (min f (INF - 1)) ≤ ru f := ru_le.2 (by omega)
        by_cases h0 : f = 0
        · subst h0
          simp only [ne_eq, not_true_eq_false, decide_false, Bool.false_eq_true, if_false, Nat.zero_min, ru_zero]
          grind
        · rw [decide_eq_true h0]
          simp only [if_true]
          grind
      · have hsb : sg (decide (f ≠ 0)) (min f (INF - 1)) = -((min f (INF - 1) : Nat) : Int) := by
          by_cases h0 : f = 0
          · subst h0; simp [sg]
          · rw [decide_eq_true h0]; rfl
        rw [hsb]
        have hsa : sg true (min F INF) = -((min F INF : Nat) : Int) := rfl
        rw [hsa]
        by_cases heq : min F INF = min f (INF - 1)
        · left; rw [heq]
        · right
          have hlt : min f (INF - 1) < min F INF := by rw [inf_val] at *; omega
          have hsuc : min F INF = min f (INF - 1) + 1 := by rw [inf_val] at *; omega
          refine ⟨by omega, true, min f (INF - 1), ?_, by omega, rfl⟩
          unfold stepW
          rw [if_neg (by omega), if_neg (by omega), if_neg (by simp), if_neg (by simp), hsuc, word_pre true (by omega)]
          simp
    · rw [decide_eq_false hx] at h1 h2 hxq
      simp only [bne_self_eq_false, Bool.false_eq_true, if_false, if_true, Bool.false_bne] at h1 h2 hxq
      have h1' : flW false x = wordB false (min f (INF - 1)) := by
        rw [h1]
        by_cases h0 : f = 0
        · subst h0; rfl
        · rw [if_neg h0]
      refine ⟨false, min f (INF - 1), false, min F INF, h1', h2, by omega, by omega, .inl (by rw [inf_val]; omega), fun hr => fD_le ?_, fun hs => fD_ge ?_, ?_⟩
      · have h3 : ru (min f (INF - 1)) ≤ ru f := ru_le.2 (by omega)
        simp only [Bool.false_eq_true, if_false]
        grind
      · rw [Nat.min_eq_left (by omega)]
        simp only [Bool.false_eq_true, if_false]
        grind
      · by_cases heq : min f (INF - 1) = min F INF
        · left; rw [heq]
        · right
          have hlt : min f (INF - 1) < min F INF := by rw [inf_val] at *; omega
          have hsuc : min F INF = min f (INF - 1) + 1 := by rw [inf_val] at *; omega
          refine ⟨by simp only [sg, Bool.false_eq_true, if_false]; omega, false, min F INF, ?_, by omega, rfl⟩
          unfold stepW
          rw [if_neg (by omega)]
          by_cases h0 : min f (INF - 1) = 0
          · rw [if_pos h0, hsuc, h0]; rfl
          · rw [if_neg h0, if_neg (by omega), if_pos (by rfl), word_suc, hsuc]
/-- A step there and back. -/
theorem step_law (s : Bool) {r : Nat} (h : r < INF) : ∃ a p b q, stepW true s r = wordB a p ∧ stepW false s r = wordB b q ∧ p ≤ INF ∧ q ≤ INF ∧ sg s r < sg a p ∧ sg b q < sg s r ∧
    (∃ c t, stepW false a p = wordB c t ∧ t ≤ INF ∧ sg c t = sg s r) ∧ (∃ c t, stepW true b q = wordB c t ∧ t ≤ INF ∧ sg c t = sg s r) := by
  have h' : r < 9218868437227405312 := h
  by_cases h0 : r = 0
  · subst h0
    refine ⟨false, 1, true, 1, by unfold stepW; rw [if_neg (by omega), if_pos rfl]; rfl, by unfold stepW; rw [if_neg (by omega), if_pos rfl]; rfl, by decide, by decide, by cases s <;> decide, by cases s <;> decide, ⟨false, 0, by decide, by omega, by cases s <;> rfl⟩, ⟨true, 0, by decide, by omega, by cases s <;> rfl⟩⟩
  · cases s
    · have e1 : stepW true false r = wordB false (r + 1) := by unfold stepW; rw [if_neg (by omega), if_neg h0, if_neg (by rw [inf_val]; omega), if_pos (by simp), word_suc]
      have e2 : stepW false false r = wordB false (r - 1) := by unfold stepW; rw [if_neg (by omega), if_neg h0, if_neg (by rw [inf_val]; omega), if_neg (by simp), word_pre false (by omega)]
      refine ⟨false, r + 1, false, r - 1, e1, e2, by rw [inf_val]; omega, by rw [inf_val]; omega, by simp only [sg, Bool.false_eq_true, if_false]; omega, by simp only [sg, Bool.false_eq_true, if_false]; omega, ⟨false, r, ?_, by omega, rfl⟩, ⟨false, r, ?_, by omega, rfl⟩⟩
      · unfold stepW
        rw [if_neg (by rw [inf_val]; omega), if_neg (by omega), if_neg (by simp), if_neg (by simp), word_pre false (by omega)]
        rfl
      · unfold stepW
        by_cases h1 : r - 1 = 0
        · rw [if_neg (by omega), if_pos h1, show r = 1 by omega]; rfl
        · rw [if_neg (by omega), if_neg h1, if_neg (by rw [inf_val]; omega), if_pos (by simp), word_suc, show r - 1 + 1 = r by omega]
    · have e1 : stepW true true r = wordB true (r - 1) := by unfold stepW; rw [if_neg (by omega), if_neg h0, if_neg (by rw [inf_val]; omega), if_neg (by simp), word_pre true (by omega)]
      have e2 : stepW false true r = wordB true (r + 1) := by unfold stepW; rw [if_neg (by omega), if_neg h0, if_neg (by rw [inf_val]; omega), if_pos (by simp), word_suc]
      refine ⟨true, r - 1, true, r + 1, e1, e2, by rw [inf_val]; omega, by rw [inf_val]; omega, by simp only [sg, if_true]; omega, by simp only [sg, if_true]; omega, ⟨true, r, ?_, by omega, rfl⟩, ⟨true, r, ?_, by omega, rfl⟩⟩
      · unfold stepW
        by_cases h1 : r - 1 = 0
        · rw [if_neg (by omega), if_pos h1, show r = 1 by omega]; rfl
        · rw [if_neg (by omega), if_neg h1, if_neg (by rw [inf_val]; omega), if_pos (by simp), word_suc, show r - 1 + 1 = r by omega]
      · unfold stepW
        rw [if_neg (by rw [inf_val]; omega), if_neg (by omega), if_neg (by simp), if_neg (by simp), word_pre true (by omega)]
        rfl
/-- Powers of two. -/
theorem pow_q (e : Int) : (nrm 1 e).q = p2 e := by
  rw [nrm_q]
  show (1 : Rat) * p2 e = p2 e
  grind
theorem pow_pos (e : Int) : 0 < (nrm 1 e).z := q_pos.1 (by rw [pow_q]; exact p2_pos e)
theorem pow_aq (e : Int) : aq (nrm 1 e) = p2 e := by
  rw [aq_q, decide_eq_false (by have := pow_pos e; omega)]
  simp only [Bool.false_eq_true, if_false]
  exact pow_q e
theorem pow_rung {e : Int} (h : -1074 ≤ e) : ∃ g, ru g = p2 e ∧ (e ≤ 1023 → g < INF) ∧ 0 < g := by
  have mk : ∀ g, ru g = p2 e → (e ≤ 1023 → g < INF) ∧ 0 < g := fun g hg => by
    refine ⟨fun he => ?_, ?_⟩
    · have h1 : p2 e < p2 1024 := p2_lt (by omega)
      rw [← ru_inf, ← hg] at h1
      exact ru_lt.1 h1
    · have h1 : ru 0 < ru g := by rw [ru_zero, hg]; exact p2_pos e
      exact ru_lt.1 h1
  by_cases h1 : e ≤ -1021
  · obtain ⟨k, hk⟩ : ∃ k : Nat, e = (k : Int) - 1074 := ⟨(e + 1074).toNat, by omega⟩
    have h2 : ru (2 ^ k) = p2 e := by rw [hk]; exact ru_two (by omega)
    exact ⟨_, h2, mk _ h2⟩
  · obtain ⟨E, hE⟩ : ∃ E : Nat, e = (E : Int) - 1022 := ⟨(e + 1022).toNat, by omega⟩
    have h2 : ru (E * 4503599627370496 + 4503599627370496) = p2 e := by rw [hE, p2_ru]
    exact ⟨_, h2, mk _ h2⟩
theorem pow_flW (up : Bool) (e : Int) : (1023 < e → flW up (nrm 1 e) = wordB false (if up then INF else INF - 1)) ∧ (e < -1074 → flW up (nrm 1 e) = wordB false (if up then 1 else 0)) ∧ (-1074 ≤ e → e ≤ 1023 → ∃ g, ru g = p2 e ∧ g < INF ∧ flW up (nrm 1 e) = wordB false g) := by
  have hp := pow_pos e
  obtain ⟨f, ex, hb, h1⟩ := flW_spec up (x := nrm 1 e) (by omega)
  rw [decide_eq_false (by omega)] at h1
  have hlo := hb.lo
  have hhi := hb.hi
  have hex := hb.ex
  rw [pow_aq] at hlo hhi hex
  refine ⟨fun he => ?_, fun he => ?_, fun he he2 => ?_⟩
  · have h2 : p2 1024 ≤ p2 e := p2_mono (by omega)
    rw [← ru_inf] at h2
    have h3 : ru INF < ru (f + 1) := by grind
    have h4 := ru_lt.1 h3
    rw [h1]
    cases up
    · simp only [bne_self_eq_false, Bool.false_eq_true, if_false]
      rw [if_neg (by rw [inf_val] at h4; omega), Nat.min_eq_right (by omega)]
    · simp only [Bool.false_bne, if_true]
      rw [Nat.min_eq_right (by split <;> omega)]
  · have h2 : p2 e < p2 (-1074) := p2_lt he
    rw [← ru_one] at h2
    have h3 : ru f < ru 1 := by grind
    have h4 := ru_lt.1 h3
    obtain rfl : f = 0 := by omega
    have h5 : ex = false := by
      cases ex
      · rfl
      · have := hex.1 rfl
        rw [ru_zero] at this
        have := p2_pos e
        grind
    subst h5
    rw [h1]
    cases up
    · simp [wordB]
    · simp only [Bool.false_bne, if_true, Bool.false_eq_true, if_false]
      rw [Nat.min_eq_left (by rw [inf_val]; omega)]
  · obtain ⟨g, g1, g2, g3⟩ := pow_rung he
    have g4 := g2 he2
    rw [← g1] at hlo hhi hex
    have h2 := ru_le.1 hlo
    have h3 := ru_lt.1 hhi
    obtain rfl : f = g := by omega
    have h4 := hex.2 rfl
    subst h4
    refine ⟨f, g1, g4, ?_⟩
    rw [h1]
    cases up
    · simp only [bne_self_eq_false, Bool.false_eq_true, if_false]
      rw [if_neg (by omega), Nat.min_eq_left (by omega)]
    · simp only [Bool.false_bne, if_true]
      rw [Nat.min_eq_left (by omega)]
theorem top_one {x : Dy} {t : Int} (h : p2 (t - 1) ≤ x.q) (h2 : x.q < p2 t) : topD x = t := by
  have hz : x.z ≠ 0 := fun hc => by
    have := q_zero.2 hc
    have := p2_pos (t - 1)
    grind
  have hpos : 0 < x.z := q_pos.1 (by have := p2_pos (t - 1); grind)
  obtain ⟨h3, h4⟩ := (top_spec hz).1 hpos
  have key : ∀ a b : Int, p2 a < p2 b → a < b := fun a b hab => by
    apply Decidable.byContradiction
    intro hc
    have := p2_mono (show b ≤ a by omega)
    grind
  have h5 := key (topD x - 1) t (by grind)
  have h6 := key (t - 1) (topD x) (by grind)
  omega
theorem top_max : topD (fD false (INF - 1)) = 1024 := by
  apply top_one
  · rw [fD_val]
    simp only [Bool.false_eq_true, if_false]
    have h := p2_ru 2045
    rw [show ((2045 : Nat) : Int) - 1022 = 1024 - 1 by decide] at h
    rw [h]
    exact ru_le.2 (by decide)
  · rw [fD_val]
    simp only [Bool.false_eq_true, if_false]
    rw [← ru_inf]
    exact ru_lt.2 (by decide)
end Fl
end Go.Proofs.YtgiejjpemhceiaaDoor
