/-
  Joined texts.
-/
import Derived.Test.YtkibkmdgibemkaaDoorTbZDy
import Derived.Test.YtkibkmdgibemkaaDoorTbGRd
import Derived.Test.YtkibkmdgibemkaaDoorTbZGp
import Derived.Test.YtkibkmdgibemkaaDoorTbZFl
/-
  Balls: Quo.
-/
namespace Go.Proofs.YtkibkmdgibemkaaDoor
set_option linter.unusedSimpArgs false
open Go.RowKit

structure IX where
  s : Bool
  a : Option Addr
  k : Nat
  c : Nat
  z : Int

/-- Whole numbers at hand. -/
def IVL (w : World) (L : List IX) : Prop := ∀ (i : Nat) (y : IX), L[i]? = some y → IV w (.agg #[.bool y.s, .slice y.a y.k y.c]) y.z

theorem IVL.nil (w : World) : IVL w [] := fun i y h => by simp at h

theorem IVL.cons {w : World} {L : List IX} (h : IVL w L) {s : Bool} {A : Option Addr} {k c : Nat} {z : Int} (hv : IV w (.agg #[.bool s, .slice A k c]) z) : IVL w (⟨s, A, k, c, z⟩ :: L) := fun i y hy => by
  rcases i with _ | i
  · obtain rfl := (Option.some.inj hy).symm; exact hv
  · exact h i y hy

theorem IVL.step {w w' : World} {L : List IX} (h : IVL w L) (ho : Only [] w w') : IVL w' L := fun i y hy => (h i y hy).only ho

theorem IVL.at {w : World} {L : List IX} (h : Hid (IVL w L)) (i : Nat) {s : Bool} {A : Option Addr} {k c : Nat} {z : Int} (hi : L[i]? = some ⟨s, A, k, c, z⟩) : Hid (IV w (.agg #[.bool s, .slice A k c]) z) := h.out i _ hi

end Go.Proofs.YtkibkmdgibemkaaDoor

/-
  Balls: Quo, whatever comes in; compasslaw5.alive.
-/
namespace Go.Proofs.YtkibkmdgibemkaaDoor
set_option linter.unusedSimpArgs false
open Go.RowKit

theorem cmpQ_lt0 {a b : Rat} : cmpQ a b < 0 ↔ a < b := by
  rcases rat_tri a b with h | h | h
  · rw [cmpQ_lt h]; exact ⟨fun _ => h, fun _ => by decide⟩
  · rw [cmpQ_eq h]; exact ⟨fun hc => absurd hc (by decide), fun hc => absurd hc (by grind)⟩
  · rw [cmpQ_gt h]; exact ⟨fun hc => absurd hc (by decide), fun hc => absurd hc (by grind)⟩

theorem cmpQ_gt0 {a b : Rat} : 0 < cmpQ a b ↔ b < a := by
  rcases rat_tri a b with h | h | h
  · rw [cmpQ_lt h]; exact ⟨fun hc => absurd hc (by decide), fun hc => absurd hc (by grind)⟩
  · rw [cmpQ_eq h]; exact ⟨fun hc => absurd hc (by decide), fun hc => absurd hc (by grind)⟩
  · rw [cmpQ_gt h]; exact ⟨fun _ => h, fun _ => by decide⟩

end Go.Proofs.YtkibkmdgibemkaaDoor

/-
  Balls, plain: rounding grows with the number and with the width; products and quotients of corners.
-/
namespace Go.Proofs.YtkibkmdgibemkaaDoor
set_option linter.unusedSimpArgs false

theorem Short.mono {P P' : Nat} {s : Dy} (h : Short P s) (hP : P ≤ P') : Short P' s := Nat.lt_of_lt_of_le h (two_mono hP)
/-- The quotient by value: what is rounded is t. -/
theorem quoQ_rd {P : Nat} {up : Bool} {x y : Dy} {t : Rat} (hP : 1 ≤ P) (hy : y.z ≠ 0) (ht : t * y.q = x.q) : Rd P up (· ≤ t) (t ≤ ·) (quoQ P up x y) := by
  unfold quoQ
  rw [if_neg hy]
  by_cases hx : x.z = 0
  · rw [if_pos hx]
    have hx0 : x.q = 0 := q_zero.2 hx
    have hy0 : y.q ≠ 0 := fun hc => hy (q_zero.1 hc)
    have ht0 : t = 0 := by
      rcases Rat.mul_eq_zero.1 (ht.trans hx0) with h | h
      · exact h
      · exact absurd h hy0
    subst ht0
    have h0 : Dy.q ⟨0, 0⟩ = 0 := zero_q
    refine ⟨.inl ⟨rfl, rfl⟩, ?_, fun _ => ?_, fun _ => ?_⟩
    · show (0 : Int).natAbs < 2 ^ P
      exact Nat.pow_pos (by decide)
    · show Dy.q ⟨0, 0⟩ ≤ 0 ∧ ∀ s, Short P s → s.q ≤ 0 → s.q ≤ Dy.q ⟨0, 0⟩
      rw [h0]
      exact ⟨Rat.le_refl, fun s _ h => h⟩
    · show 0 ≤ Dy.q ⟨0, 0⟩ ∧ ∀ s, Short P s → 0 ≤ s.q → Dy.q ⟨0, 0⟩ ≤ s.q
      rw [h0]
      exact ⟨Rat.le_refl, fun s _ h => h⟩
  · rw [if_neg hx]
    exact quo_rd hP hx hy ht
theorem quo_exists {x y : Dy} (hy : y.z ≠ 0) : (x.q / y.q) * y.q = x.q := Rat.div_mul_cancel (fun hc => hy (q_zero.1 hc))
theorem corner {a b x y m : Rat} (h1 : a ≤ x) (h2 : x ≤ b) (ha : m ≤ a * y) (hb : m ≤ b * y) : m ≤ x * y := by
  rcases Rat.le_total (a := 0) (b := y) with h | h
  · have := Rat.mul_le_mul_of_nonneg_right h1 h
    grind
  · have := Rat.mul_le_mul_of_nonneg_right h2 (show (0:Rat) ≤ -y by grind)
    grind
theorem between_quo {x y u v t t0 t1 m : Rat} (h : t * y = x) (h0 : t0 * u = x) (h1 : t1 * v = x) (hu : u ≤ y) (hv : y ≤ v) (hs : 0 < u ∨ v < 0) (m0 : m ≤ t0) (m1 : m ≤ t1) : m ≤ t := by
  refine Decidable.byContradiction fun hc => ?_
  have c0 : t < t0 := by grind
  have c1 : t < t1 := by grind
  rcases hs with hs | hs
  · have e0 := Rat.mul_lt_mul_of_pos_right c0 hs
    have e1 := Rat.mul_lt_mul_of_pos_right c1 (show 0 < v by grind)
    rcases Rat.le_total (a := 0) (b := t) with ht | ht
    · have := Rat.mul_le_mul_of_nonneg_left hv ht
      grind
    · have := Rat.mul_le_mul_of_nonneg_left hu (show 0 ≤ -t by grind)
      grind
  · have e0 := Rat.mul_lt_mul_of_pos_right c0 (show 0 < -u by grind)
    have e1 := Rat.mul_lt_mul_of_pos_right c1 (show 0 < -v by grind)
    rcases Rat.le_total (a := 0) (b := t) with ht | ht
    · have := Rat.mul_le_mul_of_nonneg_left hu ht
      grind
    · have := Rat.mul_le_mul_of_nonneg_left hv (show 0 ≤ -t by grind)
      grind
theorem box_lo {x0 x1 u v x y m : Rat} (hx : x0 ≤ x ∧ x ≤ x1) (hy : u ≤ y ∧ y ≤ v) (h : m ≤ x0 * u ∧ m ≤ x0 * v ∧ m ≤ x1 * u ∧ m ≤ x1 * v) : m ≤ x * y := by
  refine corner hx.1 hx.2 ?_ ?_
  · rw [Rat.mul_comm]
    exact corner hy.1 hy.2 (by rw [Rat.mul_comm]; exact h.1) (by rw [Rat.mul_comm]; exact h.2.1)
  · rw [Rat.mul_comm]
    exact corner hy.1 hy.2 (by rw [Rat.mul_comm]; exact h.2.2.1) (by rw [Rat.mul_comm]; exact h.2.2.2)
theorem box_hi {x0 x1 u v x y m : Rat} (hx : x0 ≤ x ∧ x ≤ x1) (hy : u ≤ y ∧ y ≤ v) (h : x0 * u ≤ m ∧ x0 * v ≤ m ∧ x1 * u ≤ m ∧ x1 * v ≤ m) : x * y ≤ m := by
  have := box_lo (x0 := -x1) (x1 := -x0) (x := -x) (u := u) (v := v) (y := y) (m := -m) (by grind) hy (by grind)
  grind
theorem qbox_lo {x0 x1 u v x y m : Rat} (hx : x0 ≤ x ∧ x ≤ x1) (hy : u ≤ y ∧ y ≤ v) (hs : 0 < u ∨ v < 0) (h : m ≤ x0 / u ∧ m ≤ x0 / v ∧ m ≤ x1 / u ∧ m ≤ x1 / v) : m ≤ x / y := by
  have hu : u ≠ 0 := by grind
  have hv : v ≠ 0 := by grind
  have hy0 : y ≠ 0 := by grind
  refine between_quo (u := u) (v := v) (Rat.div_mul_cancel hy0) (Rat.div_mul_cancel hu) (Rat.div_mul_cancel hv) hy.1 hy.2 hs ?_ ?_
  · rw [Rat.div_def]
    exact corner hx.1 hx.2 (by rw [← Rat.div_def]; exact h.1) (by rw [← Rat.div_def]; exact h.2.2.1)
  · rw [Rat.div_def]
    exact corner hx.1 hx.2 (by rw [← Rat.div_def]; exact h.2.1) (by rw [← Rat.div_def]; exact h.2.2.2)
theorem qbox_hi {x0 x1 u v x y m : Rat} (hx : x0 ≤ x ∧ x ≤ x1) (hy : u ≤ y ∧ y ≤ v) (hs : 0 < u ∨ v < 0) (h : x0 / u ≤ m ∧ x0 / v ≤ m ∧ x1 / u ≤ m ∧ x1 / v ≤ m) : x / y ≤ m := by
  have e : ∀ a b : Rat, (-a) / b = -(a / b) := fun a b => by rw [Rat.div_def, Rat.div_def]; grind
  have := qbox_lo (x0 := -x1) (x1 := -x0) (x := -x) (u := u) (v := v) (y := y) (m := -m) (by grind) hy hs (by rw [e, e, e, e]; grind)
  rw [e] at this
  grind
end Go.Proofs.YtkibkmdgibemkaaDoor

/-
  What the gaps that Add, Sub, Mul, Quo and Sqrt tell hold: enclosures, by value.
-/
namespace Go.Proofs.YtkibkmdgibemkaaDoor
set_option linter.unusedSimpArgs false
open Go.RowKit
namespace Fl
/-- A call tells a gap; if it is known, its ends are what LE and GE ask. -/
structure GR (f : FuncId) (args : Array Value) (LE GE : Rat → Prop) (X Y : Nat) : Prop where
  hx : X < 18446744073709551616
  hy : Y < 18446744073709551616
  call : ∀ w : World, Calls Tryd.prog f args w fun e w' => e = .returned (.agg #[.float .f64 X, .float .f64 Y]) ∧ Only [] w w'
  enc : kn X Y = true → ∃ s r t q, X = wordB s r ∧ Y = wordB t q ∧ r < INF ∧ q < INF ∧ LE (fD s r).q ∧ GE (fD t q).q
/-- The lower end lies below, the upper one above. -/
def EncL (c : Bool) (ρ : Nat) (le : Rat → Prop) : Prop := ∃ a i, stepW false c ρ = wordB a i ∧ i ≤ INF ∧ (i < INF → le (fD a i).q)
def EncH (c : Bool) (ρ : Nat) (ge : Rat → Prop) : Prop := ∃ b j, stepW true c ρ = wordB b j ∧ j ≤ INF ∧ (j < INF → ge (fD b j).q)
theorem Enc.lo {c : Bool} {ρ : Nat} {le ge : Rat → Prop} (h : Enc c ρ le ge) : EncL c ρ le := by
  obtain ⟨a, i, _, _, h1, _, h2, _, h3, _⟩ := h
  exact ⟨a, i, h1, h2, h3⟩
theorem Enc.hi {c : Bool} {ρ : Nat} {le ge : Rat → Prop} (h : Enc c ρ le ge) : EncH c ρ ge := by
  obtain ⟨_, _, b, j, _, h1, _, h2, _, h3⟩ := h
  exact ⟨b, j, h1, h2, h3⟩
theorem EncL.mono {c : Bool} {ρ : Nat} {le le' : Rat → Prop} (h : EncL c ρ le) (hm : ∀ q, le q → le' q) : EncL c ρ le' := by
  obtain ⟨a, i, h1, h2, h3⟩ := h
  exact ⟨a, i, h1, h2, fun h => hm _ (h3 h)⟩
theorem EncH.mono {c : Bool} {ρ : Nat} {ge ge' : Rat → Prop} (h : EncH c ρ ge) (hm : ∀ q, ge q → ge' q) : EncH c ρ ge' := by
  obtain ⟨a, i, h1, h2, h3⟩ := h
  exact ⟨a, i, h1, h2, fun h => hm _ (h3 h)⟩
theorem kn_ends {a b : Bool} {i j : Nat} (hi : i ≤ INF) (hj : j ≤ INF) (h : kn (wordB a i) (wordB b j) = true) : i < INF ∧ j < INF := by
  have hv := inf_val
  unfold kn at h
  rw [Bool.and_eq_true, Bool.and_eq_true, fin_word a (by omega), fin_word b (by omega)] at h
  exact ⟨of_decide_eq_true h.1.1, of_decide_eq_true h.1.2⟩
theorem kn_le {a b : Bool} {i j : Nat} (hi : i ≤ INF) (hj : j ≤ INF) (h : kn (wordB a i) (wordB b j) = true) : sg a i ≤ sg b j := by
  unfold kn leB at h
  rw [Bool.and_eq_true] at h
  have h2 := h.2
  rw [show ord (wordB a i) (wordB b j) = some (compare (sg a i) (sg b j)) from ord_rung a b hi hj, cmp_beq, cmp_beq, Bool.or_eq_true, decide_eq_true_eq, decide_eq_true_eq, compare_lt_iff, compare_eq_iff] at h2
  omega
theorem kn_all : kn 18442240474082181120 9218868437227405312 = false := by kernel_rfl
/-- What around tells. -/
theorem ar_res (c1 c2 : Bool) {r1 r2 : Nat} {LE GE : Rat → Prop} (h1 : r1 ≤ INF) (h2 : r2 ≤ INF) (e1 : EncL c1 r1 LE) (e2 : EncH c2 r2 GE) : ∃ X Y, GR 58 #[.float .f64 (wordB c1 r1), .float .f64 (wordB c2 r2)] LE GE X Y := by
  have hv := inf_val
  obtain ⟨a, i, s1, hi, hle⟩ := e1
  obtain ⟨b, j, s2, hj, hge⟩ := e2
  have l1 : wordB a i < 18446744073709551616 := word_lt a (by omega)
  have l2 : wordB b j < 18446744073709551616 := word_lt b (by omega)
  have hA := fun w => around_any c1 c2 (r1 := r1) (r2 := r2) (by omega) (by omega) s1 s2 l1 l2 w
  cases hk : kn (wordB a i) (wordB b j)
  · refine ⟨18442240474082181120, 9218868437227405312, by omega, by omega, fun w => ?_, fun h => by rw [kn_all] at h; cases h⟩
    have h := hA w
    unfold arW at h
    rw [hk] at h
    exact h
  · refine ⟨wordB a i, wordB b j, l1, l2, fun w => ?_, fun _ => ?_⟩
    · have h := hA w
      unfold arW at h
      rw [hk] at h
      exact h
    · obtain ⟨k1, k2⟩ := kn_ends hi hj hk
      exact ⟨a, i, b, j, rfl, rfl, k1, k2, hle k1, hge k2⟩
theorem GR.of {f g : FuncId} {us bs : Array Value} {LE GE LE' GE' : Rat → Prop} {X Y : Nat} (h : GR f us LE GE X Y) (hc : ∀ w : World, Calls Tryd.prog g bs w fun e w' => e = .returned (.agg #[.float .f64 X, .float .f64 Y]) ∧ Only [] w w') (h1 : ∀ q, LE q → LE' q) (h2 : ∀ q, GE q → GE' q) : GR g bs LE' GE' X Y :=
  ⟨h.hx, h.hy, hc, fun hk => by
    obtain ⟨s, r, t, q, e1, e2, e3, e4, e5, e6⟩ := h.enc hk
    exact ⟨s, r, t, q, e1, e2, e3, e4, h1 _ e5, h2 _ e6⟩⟩
theorem GR.all {f : FuncId} {us : Array Value} {LE GE : Rat → Prop} (hc : ∀ w : World, Calls Tryd.prog f us w fun e w' => e = .returned (.agg #[.float .f64 18442240474082181120, .float .f64 9218868437227405312]) ∧ Only [] w w') : GR f us LE GE 18442240474082181120 9218868437227405312 :=
  ⟨by omega, by omega, hc, fun h => by rw [kn_all] at h; cases h⟩
/-- The step's place among the rungs. -/
theorem step_down_sg (c : Bool) {ρ : Nat} (h : ρ ≤ INF) : ∃ a i, stepW false c ρ = wordB a i ∧ i ≤ INF ∧ sg a i = max (sg c ρ - 1) (-(INF : Int)) := by
  have hv := inf_val
  unfold stepW
  rw [if_neg (by omega)]
  by_cases h0 : ρ = 0
  · subst h0
    refine ⟨true, 1, by rw [if_pos rfl]; rfl, by omega, ?_⟩
    cases c <;> simp [sg] <;> omega
  · rw [if_neg h0]
    cases c
    · rw [if_neg (by simp), if_neg (by simp), word_pre false (by omega)]
      exact ⟨false, ρ - 1, rfl, by omega, by simp [sg]; omega⟩
    · by_cases h1 : ρ = INF
      · subst h1
        exact ⟨true, INF, by rw [if_pos (by simp)], by omega, by simp [sg]; omega⟩
      · rw [if_neg (by simp [h1]), if_pos (by simp), word_suc]
        exact ⟨true, ρ + 1, rfl, by omega, by simp [sg]; omega⟩
theorem step_up_sg (c : Bool) {ρ : Nat} (h : ρ ≤ INF) : ∃ a i, stepW true c ρ = wordB a i ∧ i ≤ INF ∧ sg a i = min (sg c ρ + 1) (INF : Int) := by
  have hv := inf_val
  unfold stepW
  rw [if_neg (by omega)]
  by_cases h0 : ρ = 0
  · subst h0
    refine ⟨false, 1, by rw [if_pos rfl]; rfl, by omega, ?_⟩
    cases c <;> simp [sg] <;> omega
  · rw [if_neg h0]
    cases c
    · by_cases h1 : ρ = INF
      · subst h1
        exact ⟨false, INF, by rw [if_pos (by simp)], by omega, by simp [sg]; omega⟩
      · rw [if_neg (by simp [h1]), if_pos (by simp), word_suc]
        exact ⟨false, ρ + 1, rfl, by omega, by simp [sg]; omega⟩
    · rw [if_neg (by simp), if_neg (by simp), word_pre true (by omega)]
      exact ⟨true, ρ - 1, rfl, by omega, by simp [sg]; omega⟩
theorem fD_order {s t : Bool} {r q : Nat} (h : sg s r ≤ sg t q) : (fD s r).q ≤ (fD t q).q := by
  have hc := cmp_word s t r q
  refine Decidable.byContradiction fun hn => ?_
  have h1 : 0 < cmpQ (fD s r).q (fD t q).q := cmpQ_gt0.2 (by grind)
  rcases Int.lt_or_eq_of_le h with h | h
  · have := hc.1.2 (compare_lt_iff.2 h); omega
  · have := hc.2.2 (compare_eq_iff.2 h); omega
theorem word_one {a b : Bool} {i j : Nat} (hi : i ≤ INF) (hj : j ≤ INF) (h : wordB a i = wordB b j) : a = b ∧ i = j := by
  have hv := inf_val
  cases a <;> cases b <;> simp [wordB] at h <;> first | exact ⟨rfl, by omega⟩ | omega
theorem sg_fin {s : Bool} {r : Nat} : r < INF ↔ (-(INF : Int) < sg s r ∧ sg s r < (INF : Int)) := by
  rw [inf_val]
  cases s <;> simp only [sg, if_true, Bool.false_eq_true, if_false] <;> omega
theorem sg_rng (s : Bool) {r : Nat} (h : r ≤ INF) : -(INF : Int) ≤ sg s r ∧ sg s r ≤ (INF : Int) := by
  rw [inf_val] at *
  cases s <;> simp only [sg, if_true, Bool.false_eq_true, if_false] <;> omega

set_option maxRecDepth 100000 in
theorem EncL.le {c c' : Bool} {ρ ρ' : Nat} {v : Rat} (hr : ρ ≤ INF) (hr' : ρ' ≤ INF) (hs : sg c ρ ≤ sg c' ρ') (h : EncL c' ρ' (· ≤ v)) : EncL c ρ (· ≤ v) := by
  have hv := inf_val
  obtain ⟨a', i', e1, e2, e3⟩ := h
  obtain ⟨a, i, f1, f2, f3⟩ := step_down_sg c hr
  obtain ⟨a2, i2, g1, g2, g3⟩ := step_down_sg c' hr'
  obtain ⟨rfl, rfl⟩ := word_one e2 g2 (e1.symm.trans g1)
  refine ⟨a, i, f1, f2, fun hi => ?_⟩
  have h1 : sg a i ≤ sg a' i' := by omega
  have h2 : i' < INF := by
    have k1 := (sg_fin (s := a)).1 hi
    have k2 := sg_rng c' hr'
    rw [inf_val] at k1 k2
    rw [sg_fin (s := a'), inf_val]
    omega
  exact Rat.le_trans (fD_order h1) (e3 h2)
set_option maxRecDepth 100000 in
theorem EncH.ge {c c' : Bool} {ρ ρ' : Nat} {v : Rat} (hr : ρ ≤ INF) (hr' : ρ' ≤ INF) (hs : sg c' ρ' ≤ sg c ρ) (h : EncH c' ρ' (v ≤ ·)) : EncH c ρ (v ≤ ·) := by
  have hv := inf_val
  obtain ⟨a', i', e1, e2, e3⟩ := h
  obtain ⟨a, i, f1, f2, f3⟩ := step_up_sg c hr
  obtain ⟨a2, i2, g1, g2, g3⟩ := step_up_sg c' hr'
  obtain ⟨rfl, rfl⟩ := word_one e2 g2 (e1.symm.trans g1)
  refine ⟨a, i, f1, f2, fun hi => ?_⟩
  have h1 : sg a' i' ≤ sg a i := by omega
  have h2 : i' < INF := by
    have k1 := (sg_fin (s := a)).1 hi
    have k2 := sg_rng c' hr'
    rw [inf_val] at k1 k2
    rw [sg_fin (s := a'), inf_val]
    omega
  exact Rat.le_trans (e3 h2) (fD_order h1)
/-- A known gap with a number in it. -/
structure InG (s1 : Bool) (r1 : Nat) (s2 : Bool) (r2 : Nat) (x : Rat) : Prop where
  f1 : r1 < INF
  f2 : r2 < INF
  lo : (fD s1 r1).q ≤ x
  hi : x ≤ (fD s2 r2).q
theorem InG.kn {s1 s2 : Bool} {r1 r2 : Nat} {x : Rat} (h : InG s1 r1 s2 r2 x) : kn (wordB s1 r1) (wordB s2 r2) = true := by
  have hv := inf_val
  have f1 := h.f1
  have f2 := h.f2
  have hc := cmp_word s1 s2 r1 r2
  have hle : ¬ 0 < cmpQ (fD s1 r1).q (fD s2 r2).q := fun hc => by have := cmpQ_gt0.1 hc; have := h.lo; have := h.hi; grind
  have ho : sg s1 r1 ≤ sg s2 r2 := by
    refine Decidable.byContradiction fun hn => ?_
    have h1 : ¬ cmpQ (fD s1 r1).q (fD s2 r2).q < 0 := fun hc2 => by have := compare_lt_iff.1 (hc.1.1 hc2); omega
    have h2 : ¬ cmpQ (fD s1 r1).q (fD s2 r2).q = 0 := fun hc2 => by have := compare_eq_iff.1 (hc.2.1 hc2); omega
    omega
  unfold Fl.kn leB
  rw [show ord (wordB s1 r1) (wordB s2 r2) = some (compare (sg s1 r1) (sg s2 r2)) from ord_rung s1 s2 (by omega) (by omega), finN s1 f1, finN s2 f2, cmp_beq, cmp_beq]
  rcases Int.lt_or_eq_of_le ho with h | h
  · rw [compare_lt_iff.2 h]; rfl
  · rw [compare_eq_iff.2 h]; rfl
theorem InG.l1 {s1 s2 : Bool} {r1 r2 : Nat} {x : Rat} (h : InG s1 r1 s2 r2 x) : Hid (wordB s1 r1 < 18446744073709551616) := Lib.hid (word_lt s1 (by have := h.f1; rw [inf_val] at this; omega))
theorem InG.l2 {s1 s2 : Bool} {r1 r2 : Nat} {x : Rat} (h : InG s1 r1 s2 r2 x) : Hid (wordB s2 r2 < 18446744073709551616) := Lib.hid (word_lt s2 (by have := h.f2; rw [inf_val] at this; omega))
abbrev gw (s1 : Bool) (r1 : Nat) (s2 : Bool) (r2 : Nat) : Value := .agg #[.float .f64 (wordB s1 r1), .float .f64 (wordB s2 r2)]
section
variable {s1 s2 t1 t2 : Bool} {r1 r2 q1 q2 : Nat} {x y : Rat}
theorem add_res (hx : InG s1 r1 s2 r2 x) (hy : InG t1 q1 t2 q2 y) : ∃ X Y, GR 13 #[gw s1 r1 s2 r2, gw t1 q1 t2 q2] (· ≤ x + y) (x + y ≤ ·) X Y := by
  obtain ⟨c, ρ, a1, a2, a3⟩ := add_enc s1 t1 hx.f1 hy.f1
  obtain ⟨d, σ, b1, b2, b3⟩ := add_enc s2 t2 hx.f2 hy.f2
  obtain ⟨X, Y, h⟩ := ar_res c d a2 b2 a3.lo b3.hi
  refine ⟨X, Y, h.of (fun w => add_core _ _ _ _ _ _ _ _ hx.l1 hx.l2 hy.l1 hy.l2 (by rw [hx.kn, hy.kn]; rfl) a1 b1 h.call w) (fun q hq => ?_) (fun q hq => ?_)⟩
  · have := hx.lo; have := hy.lo; grind
  · have := hx.hi; have := hy.hi; grind
theorem sub_res (hx : InG s1 r1 s2 r2 x) (hy : InG t1 q1 t2 q2 y) : ∃ X Y, GR 15 #[gw s1 r1 s2 r2, gw t1 q1 t2 q2] (· ≤ x - y) (x - y ≤ ·) X Y := by
  obtain ⟨c, ρ, a1, a2, a3⟩ := sub_enc s1 t2 hx.f1 hy.f2
  obtain ⟨d, σ, b1, b2, b3⟩ := sub_enc s2 t1 hx.f2 hy.f1
  obtain ⟨X, Y, h⟩ := ar_res c d a2 b2 a3.lo b3.hi
  refine ⟨X, Y, h.of (fun w => sub_core _ _ _ _ _ _ _ _ hx.l1 hx.l2 hy.l1 hy.l2 (by rw [hx.kn, hy.kn]; rfl) a1 b1 h.call w) (fun q hq => ?_) (fun q hq => ?_)⟩
  · have := hx.lo; have := hy.hi; grind
  · have := hx.hi; have := hy.lo; grind
/-- The least and the greatest of four rounded numbers enclose what lies between the exact ones. -/
theorem four_res {c1 c2 c3 c4 : Bool} {p1 p2 p3 p4 : Nat} {v1 v2 v3 v4 : Rat} (h1 : p1 ≤ INF) (h2 : p2 ≤ INF) (h3 : p3 ≤ INF) (h4 : p4 ≤ INF) (e1 : Enc c1 p1 (· ≤ v1) (v1 ≤ ·)) (e2 : Enc c2 p2 (· ≤ v2) (v2 ≤ ·)) (e3 : Enc c3 p3 (· ≤ v3) (v3 ≤ ·)) (e4 : Enc c4 p4 (· ≤ v4) (v4 ≤ ·)) :
    ∃ a i b j X Y, (∀ w : World, (Builtin.min_ #[22, 22, 22, 22] 22 #[.float .f64 (wordB c1 p1), .float .f64 (wordB c2 p2), .float .f64 (wordB c3 p3), .float .f64 (wordB c4 p4)]).run Tryd.prog w = .ok (.float .f64 (wordB a i)) w) ∧ (∀ w : World, (Builtin.max_ #[22, 22, 22, 22] 22 #[.float .f64 (wordB c1 p1), .float .f64 (wordB c2 p2), .float .f64 (wordB c3 p3), .float .f64 (wordB c4 p4)]).run Tryd.prog w = .ok (.float .f64 (wordB b j)) w) ∧
      GR 58 #[.float .f64 (wordB a i), .float .f64 (wordB b j)] (fun q => q ≤ v1 ∧ q ≤ v2 ∧ q ≤ v3 ∧ q ≤ v4) (fun q => v1 ≤ q ∧ v2 ≤ q ∧ v3 ≤ q ∧ v4 ≤ q) X Y := by
  obtain ⟨a, i, hi, m1, l1, l2, l3, l4, -⟩ := min4_word Tryd.prog c1 c2 c3 c4 h1 h2 h3 h4 22 #[22, 22, 22, 22]
  obtain ⟨b, j, hj, m2, g1, g2, g3, g4, -⟩ := max4_word Tryd.prog c1 c2 c3 c4 h1 h2 h3 h4 22 #[22, 22, 22, 22]
  have k1 := e1.lo.le hi h1 l1
  have k2 := e2.lo.le hi h2 l2
  have k3 := e3.lo.le hi h3 l3
  have k4 := e4.lo.le hi h4 l4
  have n1 := e1.hi.ge hj h1 g1
  have n2 := e2.hi.ge hj h2 g2
  have n3 := e3.hi.ge hj h3 g3
  have n4 := e4.hi.ge hj h4 g4
  have hL : EncL a i (fun q => q ≤ v1 ∧ q ≤ v2 ∧ q ≤ v3 ∧ q ≤ v4) := by
    obtain ⟨a1, i1, u1, u2, u3⟩ := k1
    refine ⟨a1, i1, u1, u2, fun h => ⟨u3 h, ?_, ?_, ?_⟩⟩
    · obtain ⟨a2, i2, v1, v2, v3⟩ := k2
      obtain ⟨rfl, rfl⟩ := word_one u2 v2 (u1.symm.trans v1)
      exact v3 h
    · obtain ⟨a2, i2, v1, v2, v3⟩ := k3
      obtain ⟨rfl, rfl⟩ := word_one u2 v2 (u1.symm.trans v1)
      exact v3 h
    · obtain ⟨a2, i2, v1, v2, v3⟩ := k4
      obtain ⟨rfl, rfl⟩ := word_one u2 v2 (u1.symm.trans v1)
      exact v3 h
  have hH : EncH b j (fun q => v1 ≤ q ∧ v2 ≤ q ∧ v3 ≤ q ∧ v4 ≤ q) := by
    obtain ⟨a1, i1, u1, u2, u3⟩ := n1
    refine ⟨a1, i1, u1, u2, fun h => ⟨u3 h, ?_, ?_, ?_⟩⟩
    · obtain ⟨a2, i2, v1, v2, v3⟩ := n2
      obtain ⟨rfl, rfl⟩ := word_one u2 v2 (u1.symm.trans v1)
      exact v3 h
    · obtain ⟨a2, i2, v1, v2, v3⟩ := n3
      obtain ⟨rfl, rfl⟩ := word_one u2 v2 (u1.symm.trans v1)
      exact v3 h
    · obtain ⟨a2, i2, v1, v2, v3⟩ := n4
      obtain ⟨rfl, rfl⟩ := word_one u2 v2 (u1.symm.trans v1)
      exact v3 h
  obtain ⟨X, Y, h⟩ := ar_res a b hi hj hL hH
  exact ⟨a, i, b, j, X, Y, m1, m2, h⟩
theorem mul_res (hx : InG s1 r1 s2 r2 x) (hy : InG t1 q1 t2 q2 y) : ∃ X Y, GR 16 #[gw s1 r1 s2 r2, gw t1 q1 t2 q2] (· ≤ x * y) (x * y ≤ ·) X Y := by
  obtain ⟨c1, p1, a1, a2, a3⟩ := mul_enc s1 t1 hx.f1 hy.f1
  obtain ⟨c2, p2, b1, b2, b3⟩ := mul_enc s1 t2 hx.f1 hy.f2
  obtain ⟨c3, p3, d1, d2, d3⟩ := mul_enc s2 t1 hx.f2 hy.f1
  obtain ⟨c4, p4, e1, e2, e3⟩ := mul_enc s2 t2 hx.f2 hy.f2
  obtain ⟨a, i, b, j, X, Y, m1, m2, h⟩ := four_res a2 b2 d2 e2 a3 b3 d3 e3
  exact ⟨X, Y, h.of (fun w => mul_core _ _ _ _ _ _ _ _ _ _ _ _ hx.l1 hx.l2 hy.l1 hy.l2 (by rw [hx.kn, hy.kn]; rfl) a1 b1 d1 e1 m1 m2 h.call w) (fun q hq => box_lo ⟨hx.lo, hx.hi⟩ ⟨hy.lo, hy.hi⟩ hq) (fun q hq => box_hi ⟨hx.lo, hx.hi⟩ ⟨hy.lo, hy.hi⟩ hq)⟩
theorem ord_zeroB (s : Bool) {r : Nat} (h : r < INF) : FloatKind.f64.format.order (wordB s r) 0 = some (compare (sg s r) 0) := by
  have := ord_rung s false (r := r) (s := 0) (by rw [inf_val] at *; omega) (by rw [inf_val]; omega)
  rw [word_zero] at this
  exact this
theorem quo_res (hx : InG s1 r1 s2 r2 x) (hy : InG t1 q1 t2 q2 y) : ∃ X Y, GR 17 #[gw s1 r1 s2 r2, gw t1 q1 t2 q2] (· ≤ x / y) (x / y ≤ ·) X Y := by
  have hv := inf_val
  have o1 := ord_zeroB t1 hy.f1
  have o2 := ord_zeroB t2 hy.f2
  by_cases hz : sg t1 q1 ≤ 0 ∧ 0 ≤ sg t2 q2
  · refine ⟨_, _, GR.all (fun w => quo_zero _ _ _ _ hx.l1 hx.l2 hy.l1 hy.l2 (by rw [hx.kn, hy.kn]; rfl) ?_ ?_ w)⟩
    · rw [o1, cmp_beq, cmp_beq, Bool.or_eq_true, decide_eq_true_eq, decide_eq_true_eq, compare_lt_iff, compare_eq_iff]; omega
    · rw [o2, cmp_beq, cmp_beq, Bool.or_eq_true, decide_eq_true_eq, decide_eq_true_eq, compare_gt_iff, compare_eq_iff]; omega
  · have hq1 : q1 ≠ 0 := fun hc => by
      subst hc
      have h1 : (fD t1 0).q = 0 := by rw [fD_val, ru_zero]; cases t1 <;> rfl
      have h2 : sg t1 0 = 0 := by cases t1 <;> rfl
      have h3 : sg t2 q2 < 0 := by omega
      have h4 := fD_order (s := t2) (r := q2) (t := true) (q := 1) (by rw [show sg true 1 = -1 from rfl]; omega)
      have h5 : (fD true 1).q < 0 := by rw [fD_val]; have := ru_lt (r := 0) (s := 1); rw [ru_zero] at this; have := this.2 (by omega); simp; grind
      have := hy.lo; have := hy.hi; grind
    have hq2 : q2 ≠ 0 := fun hc => by
      subst hc
      have h1 : (fD t2 0).q = 0 := by rw [fD_val, ru_zero]; cases t2 <;> rfl
      have h2 : sg t2 0 = 0 := by cases t2 <;> rfl
      have h3 : 0 < sg t1 q1 := by omega
      have h4 := fD_order (s := false) (r := 1) (t := t1) (q := q1) (by rw [show sg false 1 = 1 from rfl]; omega)
      have h5 : 0 < (fD false 1).q := by rw [fD_val]; have := ru_lt (r := 0) (s := 1); rw [ru_zero] at this; exact this.2 (by omega)
      have := hy.lo; have := hy.hi; grind
    have hs : 0 < (fD t1 q1).q ∨ (fD t2 q2).q < 0 := by
      by_cases h : 0 < sg t1 q1
      · left
        have h4 := fD_order (s := false) (r := 1) (t := t1) (q := q1) (by rw [show sg false 1 = 1 from rfl]; omega)
        have h5 : 0 < (fD false 1).q := by rw [fD_val]; have := ru_lt (r := 0) (s := 1); rw [ru_zero] at this; exact this.2 (by omega)
        grind
      · right
        have h4 := fD_order (s := t2) (r := q2) (t := true) (q := 1) (by rw [show sg true 1 = -1 from rfl]; omega)
        have h5 : (fD true 1).q < 0 := by rw [fD_val]; have := ru_lt (r := 0) (s := 1); rw [ru_zero] at this; have := this.2 (by omega); simp; grind
        grind
    obtain ⟨c1, p1, a1, a2, a3⟩ := quo_enc s1 t1 hx.f1 hy.f1 hq1
    obtain ⟨c2, p2, b1, b2, b3⟩ := quo_enc s1 t2 hx.f1 hy.f2 hq2
    obtain ⟨c3, p3, d1, d2, d3⟩ := quo_enc s2 t1 hx.f2 hy.f1 hq1
    obtain ⟨c4, p4, e1, e2, e3⟩ := quo_enc s2 t2 hx.f2 hy.f2 hq2
    obtain ⟨a, i, b, j, X, Y, m1, m2, h⟩ := four_res a2 b2 d2 e2 a3 b3 d3 e3
    refine ⟨X, Y, h.of (fun w => quo_core _ _ _ _ _ _ _ _ _ _ _ _ _ _ hx.l1 hx.l2 hy.l1 hy.l2 (by rw [hx.kn, hy.kn]; rfl) rfl rfl ?_ a1 b1 d1 e1 m1 m2 h.call w) (fun q hq => qbox_lo ⟨hx.lo, hx.hi⟩ ⟨hy.lo, hy.hi⟩ hs hq) (fun q hq => qbox_hi ⟨hx.lo, hx.hi⟩ ⟨hy.lo, hy.hi⟩ hs hq)⟩
    rw [o1, o2, cmp_beq, cmp_beq, cmp_beq, cmp_beq, Bool.eq_false_iff]
    intro hc
    rw [Bool.and_eq_true, Bool.or_eq_true, Bool.or_eq_true, decide_eq_true_eq, decide_eq_true_eq, decide_eq_true_eq, decide_eq_true_eq, compare_lt_iff, compare_eq_iff, compare_gt_iff, compare_eq_iff] at hc
    omega
/-- What the ends of a root's gap are: squares below, and above. -/
theorem sqrt_res (hx : InG s1 r1 s2 r2 x) (h0 : 0 ≤ x) : ∃ X Y, GR 22 #[gw s1 r1 s2 r2] (LeR x) (GeR x) X Y := by
  have hv := inf_val
  have o1 := ord_zeroB s1 hx.f1
  have hf := hx.f1
  have hf2 := hx.f2
  by_cases hn : sg s1 r1 < 0
  · refine ⟨_, _, GR.all (fun w => gsqrt_neg _ _ hx.l1 hx.l2 hx.kn ?_ w)⟩
    rw [o1, cmp_beq, decide_eq_true_eq, compare_lt_iff]; exact hn
  · have z1 : s1 = true → r1 = 0 := fun h => by subst h; simp [sg] at hn; omega
    have z2 : s2 = true → r2 = 0 := fun h => by
      subst h
      refine Decidable.byContradiction fun hc => ?_
      have h4 := fD_order (s := true) (r := r2) (t := true) (q := 1) (by simp only [sg, if_true]; omega)
      have h5 : (fD true 1).q < 0 := by rw [fD_val]; have := ru_lt (r := 0) (s := 1); rw [ru_zero] at this; have := this.2 (by omega); simp; grind
      have := hx.hi; grind
    have v1 : (fD s1 r1).q = ru r1 := by
      rw [fD_val]
      cases s1
      · rfl
      · rw [z1 rfl, ru_zero]; rfl
    have v2 : (fD s2 r2).q = ru r2 := by
      rw [fD_val]
      cases s2
      · rfl
      · rw [z2 rfl, ru_zero]; rfl
    obtain ⟨c, p, a1, a2, a3⟩ := sqrt_enc s1 hf z1
    obtain ⟨d, q, b1, b2, b3⟩ := sqrt_enc s2 hf2 z2
    obtain ⟨X, Y, h⟩ := ar_res c d a2 b2 a3.lo b3.hi
    refine ⟨X, Y, h.of (fun w => gsqrt_core _ _ _ _ _ _ hx.l1 hx.l2 hx.kn ?_ a1 b1 h.call w) (fun q hq => ?_) (fun q hq => ?_)⟩
    · rw [o1, cmp_beq, Bool.eq_false_iff]
      intro hc
      rw [decide_eq_true_eq, compare_lt_iff] at hc
      exact hn hc
    · have hl := hx.lo
      rw [v1] at hl
      rcases hq with h | h
      · exact .inl h
      · exact .inr (Rat.le_trans h hl)
    · have hl := hx.hi
      rw [v2] at hl
      exact ⟨hq.1, Rat.le_trans hl hq.2⟩
end
end Fl
end Go.Proofs.YtkibkmdgibemkaaDoor
