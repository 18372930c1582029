/-
  Floats, plain: a sum of two lies between the words beside the exact sum.
-/
import Derived.Test.YtgiejjpemhceiaaDoorTaFlY
import Derived.WalkLawsBesides
namespace Go.Proofs.YtgiejjpemhceiaaDoor
set_option linter.unusedSimpArgs false

namespace Fl
theorem write_num (neg : Bool) (m : Nat) (p : Int) : Ieee.double.write (.number neg m p) = Ieee.double.nearest neg m p := rfl
/-- The nearest word lies between the two. -/
theorem near_between {x : Dy} (neg : Bool) (m : Nat) (p : Int) (hm : m ≠ 0) (hx : x.q = (if neg then -(((m : Int) : Rat) * p2 p) else ((m : Int) : Rat) * p2 p)) : ∃ ρ, Ieee.double.nearest neg m p = wordB neg ρ ∧ ρ ≤ INF ∧ (ρ < INF → ∃ a i b j, flW false x = wordB a i ∧ flW true x = wordB b j ∧ i ≤ INF ∧ j ≤ INF ∧ sg a i ≤ sg neg ρ ∧ sg neg ρ ≤ sg b j) := by
  obtain ⟨f, rr, h1, h2, h3, h4⟩ := nearest_rung neg p hm
  refine ⟨min rr INF, h1, by omega, fun hlt => ?_⟩
  have hpos : 0 < ((m : Int) : Rat) * p2 p := by
    have := p2_pos p
    have h0 : (0 : Rat) < ((m : Int) : Rat) := by exact_mod_cast Nat.pos_of_ne_zero hm
    exact Rat.mul_pos h0 this
  have hz : x.z ≠ 0 := fun hc => by
    have := q_zero.2 hc
    rw [this] at hx
    cases neg <;> simp only [Bool.false_eq_true, if_false, if_true] at hx <;> grind
  have hneg : decide (x.z < 0) = neg := by
    cases neg
    · simp only [Bool.false_eq_true, if_false] at hx
      have := q_pos.1 (show 0 < x.q by grind)
      simp; omega
    · simp only [if_true] at hx
      have := q_neg.1 (show x.q < 0 by grind)
      simpa using this
  have haq : aq x = ((m : Int) : Rat) * p2 p := by
    rw [aq_q, hneg, hx]
    cases neg
    · simp
    · simp [Rat.neg_neg]
  have hb1 : ru f ≤ aq x := by rw [haq]; exact (unit_le _ _ _).1 h2
  have hb2 : aq x < ru (f + 1) := by rw [haq]; exact (unit_lt _ _ _).1 h3
  have hb3 : NR f * 2 ^ (-1074 - p).toNat < m * 2 ^ (p + 1074).toNat → ru f ≠ aq x := fun hs hc => by
    have h5 : ((m : Int) : Rat) * p2 p ≤ ((NR f : Int) : Rat) * p2 (-1074) := by
      rw [← haq, ← hc]
      exact Rat.le_refl
    have h6 : ¬ ((m : Int) : Rat) * p2 p ≤ ((NR f : Int) : Rat) * p2 (-1074) := by
      intro hc2
      have h7 := (unit_le m (NR f) p).1 (by omega)
      have h8 := rat_le_antisymm h7 hc2
      have h9 : m * 2 ^ (p + 1074).toNat ≤ NR f * 2 ^ (-1074 - p).toNat := by
        apply Decidable.byContradiction
        intro hc3
        have e1 := q_at (x := ⟨(NR f : Int), -1074⟩) (m := min (-1074) p) (by show min (-1074) p ≤ -1074; omega)
        have e2 := q_at (x := ⟨(m : Int), p⟩) (m := min (-1074) p) (by show min (-1074) p ≤ p; omega)
        unfold Dy.q at e1 e2
        simp only at e1 e2
        rw [e1, e2, rat_eq_iff, show (-1074 - min (-1074) p).toNat = (-1074 - p).toNat by omega, show (p - min (-1074) p).toNat = (p + 1074).toNat by omega] at h8
        generalize (-1074 - p).toNat = u at *
        generalize (p + 1074).toNat = v at *
        have h10 : ((NR f * 2 ^ u : Nat) : Int) = ((m * 2 ^ v : Nat) : Int) := by push_cast; exact h8
        omega
      omega
    exact h6 h5
  obtain ⟨g, ex, hb, k1⟩ := flW_spec false hz
  obtain ⟨g', ex', hb', k2⟩ := flW_spec true hz
  obtain ⟨rfl, rfl⟩ := hb.one hb'
  have hg : g = f := by
    have a1 := hb.lo
    have a2 := hb.hi
    have a3 := ru_lt.1 (show ru g < ru (f + 1) by grind)
    have a4 := ru_lt.1 (show ru f < ru (g + 1) by grind)
    omega
  subst hg
  have hlt' : rr < INF := by omega
  have hmin : min rr INF = rr := by omega
  have hF : rr ≤ (if ex then g else g + 1) := by
    cases ex
    · simp only [Bool.false_eq_true, if_false]; omega
    · simp only [if_true]
      rcases h4 with h4 | ⟨h4, h5⟩
      · omega
      · exact absurd (hb.ex.1 rfl) (hb3 h5)
  have hF2 : g ≤ rr := by omega
  rw [hneg] at k1 k2
  rw [hmin]
  have hiv := inf_val
  cases neg
  · simp only [bne_self_eq_false, Bool.false_eq_true, if_false, if_true, Bool.false_bne] at k1 k2
    have k1' : flW false x = wordB false (min g (INF - 1)) := by
      rw [k1]
      by_cases h0 : g = 0
      · subst h0; rfl
      · rw [if_neg h0]
    refine ⟨false, _, false, _, k1', k2, by omega, by omega, ?_, ?_⟩ <;> simp only [sg, Bool.false_eq_true, if_false] <;> omega
  · simp only [bne_self_eq_false, Bool.false_eq_true, if_false, if_true, Bool.true_bne, Bool.not_false] at k1 k2
    have k2' : flW true x = wordB (decide (g ≠ 0)) (min g (INF - 1)) := by
      rw [k2]
      by_cases h0 : g = 0
      · subst h0; rfl
      · rw [if_neg h0, decide_eq_true h0]
    refine ⟨true, _, _, _, k1, k2', by omega, by omega, ?_, ?_⟩
    · simp only [sg, if_true]; omega
    · by_cases h0 : g = 0
      · subst h0; simp [sg]
      · rw [decide_eq_true h0]
        simp only [sg, if_true]
        omega
/-- The sum of two finite floats. -/
theorem add_law (s t : Bool) {r q : Nat} (hr : r < INF) (hq : q < INF) : ∃ c ρ, floatBits .add .f64 (wordB s r) (wordB t q) = some (wordB c ρ) ∧ ρ ≤ INF ∧ (ρ < INF → ∃ a i b j, flW false (dAdd (fD s r) (fD t q)) = wordB a i ∧ flW true (dAdd (fD s r) (fD t q)) = wordB b j ∧ i ≤ INF ∧ j ≤ INF ∧ sg a i ≤ sg c ρ ∧ sg c ρ ≤ sg b j) := by
  obtain ⟨m, k, e1, e2⟩ := read_fin s hr
  obtain ⟨n, l, e3, e4⟩ := read_fin t hq
  obtain ⟨u, hu⟩ : ∃ u : Nat, min (-1074 + (k : Int)) (-1074 + (l : Int)) = -1074 + (u : Int) := ⟨min k l, by omega⟩
  obtain ⟨T, hT⟩ : ∃ T, sg s (m * 2 ^ (-1074 + (k : Int) - (-1074 + (u : Int))).toNat) + sg t (n * 2 ^ (-1074 + (l : Int) - (-1074 + (u : Int))).toNat) = T := ⟨_, rfl⟩
  have hTS : T * 2 ^ u = sg s (NR r) + sg t (NR q) := by
    rw [← hT, Int.add_mul, sg_pow, sg_pow, Nat.mul_assoc, Nat.mul_assoc, ← Nat.pow_add, ← Nat.pow_add, show (-1074 + (k : Int) - (-1074 + (u : Int))).toNat + u = k by omega, show (-1074 + (l : Int) - (-1074 + (u : Int))).toNat + u = l by omega, e2, e4]
  have hbits : floatBits .add .f64 (wordB s r) (wordB t q) = some (Ieee.double.nearest (if T = 0 then s && t else decide (T < 0)) T.natAbs (-1074 + (u : Int))) := by
    show Ieee.double.add (wordB s r) (wordB t q) = _
    unfold Ieee.Format.add
    rw [e1, e3]
    unfold Ieee.Datum.sum
    simp only [signed_sg, hu, hT, Option.map_some, write_num]
  have hxq : (dAdd (fD s r) (fD t q)).q = (T : Rat) * p2 (-1074 + (u : Int)) := by
    rw [dAdd_q, fD_q, fD_q]
    have h1 := q_down T (-1074 + (u : Int)) u
    rw [show -1074 + (u : Int) - (u : Int) = -1074 by omega, hTS] at h1
    rw [← h1]
    push_cast
    rw [Rat.add_mul]
  by_cases h0 : T = 0
  · subst h0
    have hx0 : (dAdd (fD s r) (fD t q)).z = 0 := q_zero.1 (by rw [hxq]; simp)
    have e : ∀ up, flW up (dAdd (fD s r) (fD t q)) = wordB false 0 := fun up => by unfold flW; rw [if_pos hx0]; rfl
    refine ⟨s && t, 0, ?_, by omega, fun _ => ⟨false, 0, false, 0, e _, e _, by omega, by omega, ?_, ?_⟩⟩
    · rw [hbits, if_pos rfl]
      unfold Ieee.Format.nearest
      rw [if_pos (by rfl), word_eq]
    · cases s <;> cases t <;> decide
    · cases s <;> cases t <;> decide
  · rw [if_neg h0] at hbits
    obtain ⟨ρ, g1, g2, g3⟩ := near_between (x := dAdd (fD s r) (fD t q)) (decide (T < 0)) T.natAbs (-1074 + (u : Int)) (by omega) (by
      rw [hxq]
      by_cases hn : T < 0
      · rw [if_pos (by simpa using hn), ← Rat.neg_mul]
        congr 1
        have : T = -((T.natAbs : Nat) : Int) := by omega
        rw [this]
        push_cast
        simp
      · rw [if_neg (by simpa using hn)]
        congr 1
        have : T = ((T.natAbs : Nat) : Int) := by omega
        rw [← this])
    rw [g1] at hbits
    exact ⟨_, ρ, hbits, g2, g3⟩
end Fl
end Go.Proofs.YtgiejjpemhceiaaDoor
