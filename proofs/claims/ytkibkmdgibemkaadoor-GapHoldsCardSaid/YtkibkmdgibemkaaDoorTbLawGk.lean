/-
  GapHolds: the walk, closed.
-/
import Derived.Test.YtkibkmdgibemkaaDoorTbLawGi
import Derived.Test.YtkibkmdgibemkaaDoorTbLawGl
import Derived.Test.YtkibkmdgibemkaaDoorTbLawGj
import Derived.Test.YtkibkmdgibemkaaDoorTbZDy
namespace Go.Proofs.YtkibkmdgibemkaaDoor
set_option linter.unusedSimpArgs false
open Go.RowKit
namespace Fl
attribute [local go_sem] run_store_float

theorem ksqrt_any {s1 s2 : Bool} {r1 r2 : Nat} {x : Rat} (hx : InG s1 r1 s2 r2 x) : ∃ X Y, GR 22 #[gw s1 r1 s2 r2] (fun q => 0 ≤ x → LeR x q) (fun q => 0 ≤ x → GeR x q) X Y := by
  by_cases h0 : 0 ≤ x
  · obtain ⟨X, Y, h⟩ := sqrt_res hx h0
    exact ⟨X, Y, h.of h.call (fun q hq _ => hq) (fun q hq _ => hq)⟩
  · have o1 := ord_zeroB s1 hx.f1
    have hn : sg s1 r1 < 0 := by
      refine Decidable.byContradiction fun hc => ?_
      have h4 := fD_order (s := false) (r := 0) (t := s1) (q := r1) (by rw [show sg false 0 = 0 from rfl]; omega)
      have h5 : (fD false 0).q = 0 := by rw [fD_val, ru_zero]; rfl
      have := hx.lo
      grind
    refine ⟨_, _, GR.all (fun w => gsqrt_neg _ _ hx.l1 hx.l2 hx.kn ?_ w)⟩
    rw [o1, cmp_beq, decide_eq_true_eq, compare_lt_iff]
    exact hn
set_option maxHeartbeats 1600000 in
theorem gapHolds_any (a1 a2 b1 b2 x y : Nat) (w : World) (h1 : a1 < 18446744073709551616) (h2 : a2 < 18446744073709551616) (h3 : b1 < 18446744073709551616) (h4 : b2 < 18446744073709551616) (hx0 : (Lit.float .f64 x).wf = true) (hy0 : (Lit.float .f64 y).wf = true) (hT : Tab6 w) : Calls Tryd.prog 3 #[.agg #[.float .f64 a1, .float .f64 a2], .agg #[.float .f64 b1, .float .f64 b2], .float .f64 x, .float .f64 y] w fun e w' => e = .returned (.bool true) ∧ Only [] w w' := by
  have hx : x < 18446744073709551616 := by
    have := hx0
    simp only [Lit.wf, decide_eq_true_eq] at this
    exact this
  have hy : y < 18446744073709551616 := by
    have := hy0
    simp only [Lit.wf, decide_eq_true_eq] at this
    exact this
  have hv := inf_val
  cases hka : kn a1 a2
  · exact gh_out1 a1 a2 b1 b2 x y w (Lib.hid h1) (Lib.hid h2) hka
  cases hkb : kn b1 b2
  · exact gh_out2 a1 a2 b1 b2 x y w (Lib.hid h1) (Lib.hid h2) (Lib.hid h3) (Lib.hid h4) hka hkb
  obtain ⟨s1, r1, s2, r2, ea1, ea2, f1, f2, hle⟩ := kn_words h1 h2 hka
  obtain ⟨t1, q1, t2, q2, eb1, eb2, g1, g2, hle2⟩ := kn_words h3 h4 hkb
  obtain ⟨sx, rx, ex, hrx⟩ := word_split hx
  obtain ⟨sy, ry, ey, hry⟩ := word_split hy
  by_cases nx : INF < rx
  · exact gh_nan1 a1 a2 b1 b2 x y w (Lib.hid h1) (Lib.hid h2) (Lib.hid h3) (Lib.hid h4) hka hkb (Lib.hid (by rw [ex]; exact (ord_nan sx nx hrx a1).1)) (Lib.hid hy)
  obtain ⟨mx, bx, jx, m1, m2, hIx, hjx⟩ := clip (s := sx) (r := rx) f1 f2 hle (by omega)
  have lx : wordB bx jx < 18446744073709551616 := word_lt bx (by omega)
  have m1' := m1
  have m2' := m2
  rw [← ex, ← ea1] at m1'
  rw [← ea2] at m2'
  by_cases ny : INF < ry
  · exact gh_nan2 a1 a2 b1 b2 x y w (Lib.hid h1) (Lib.hid h2) (Lib.hid h3) (Lib.hid h4) hka hkb mx (wordB bx jx) (finN bx hjx) (Lib.hid lx) m1' m2' (Lib.hid (by rw [ey]; exact (ord_nan sy ny hry b1).1))
  obtain ⟨my, by_, jy, m3, m4, hIy, hjy⟩ := clip (s := sy) (r := ry) g1 g2 hle2 (by omega)
  have ly : wordB by_ jy < 18446744073709551616 := word_lt by_ (by omega)
  have m3' := m3
  have m4' := m4
  rw [← ey, ← eb1] at m3'
  rw [← eb2] at m4'
  obtain ⟨X1, Y1, R1⟩ := add_res hIx hIy
  obtain ⟨X2, Y2, R2⟩ := sub_res hIx hIy
  obtain ⟨X3, Y3, R3⟩ := mul_res hIx hIy
  obtain ⟨X4, Y4, R4⟩ := quo_res hIx hIy
  obtain ⟨X5, Y5, R5⟩ := ksqrt_any hIx
  have C1 := R1.call
  have C2 := R2.call
  have C3 := R3.call
  have C4 := R4.call
  have C5 := R5.call
  simp only [gw] at C1 C2 C3 C4 C5
  rw [← ea1, ← ea2] at C1 C2 C3 C4 C5
  rw [← eb1, ← eb2] at C1 C2 C3 C4
  have Bp := bnd_wordG bx jx (N := 4000) (Nat.le_refl _) (by omega)
  have Bq := bnd_wordG by_ jy (N := 4000) (Nat.le_refl _) (by omega)
  obtain ⟨u, v, hu1, hv1, hu2, hv2, Bu, Bv⟩ : ∃ u v : Dy, (kn X5 Y5 = true → ∀ w : World, Calls Tryd.prog 8 #[.float .f64 X5] w (RDP u w)) ∧ (kn X5 Y5 = true → ∀ w : World, Calls Tryd.prog 8 #[.float .f64 Y5] w (RDP v w)) ∧ (kn X5 Y5 = true → 0 ≤ (fD bx jx).q → LeR (fD bx jx).q u.q) ∧ (kn X5 Y5 = true → 0 ≤ (fD bx jx).q → GeR (fD bx jx).q v.q) ∧ Bnd 4000 u ∧ Bnd 4000 v := by
    cases hk : kn X5 Y5
    · exact ⟨⟨0, 0⟩, ⟨0, 0⟩, fun h => (by cases h), fun h => (by cases h), fun h => (by cases h), fun h => (by cases h), bnd_zero _, bnd_zero _⟩
    · obtain ⟨s, r, t, o, e1, e2, e3, e4, e5, e6⟩ := R5.enc hk
      subst e1 e2
      exact ⟨_, _, fun _ => rof_d s e3, fun _ => rof_d t e4, fun _ h => e5 h, fun _ h => e6 h, bnd_wordG s r (Nat.le_refl _) (by omega), bnd_wordG t o (Nat.le_refl _) (by omega)⟩
  have hrc : (fD bx jx).z.sign < 0 ∨ (0 ≤ (fD bx jx).z.sign ∧ kn X5 Y5 = false) ∨ (0 ≤ (fD bx jx).z.sign ∧ kn X5 Y5 = true ∧ ((decide (u.z.sign ≤ 0) = true ∧ decide (0 ≤ v.z.sign) = true ∧ decide (0 ≤ cmpQ (dMul v v).q (fD bx jx).q) = true) ∨ (decide (u.z.sign ≤ 0) = false ∧ decide (cmpQ (dMul u u).q (fD bx jx).q ≤ 0) = true ∧ decide (0 ≤ v.z.sign) = true ∧ decide (0 ≤ cmpQ (dMul v v).q (fD bx jx).q) = true))) := by
    by_cases hn : (fD bx jx).z < 0
    · left; rw [Int.sign_eq_neg_one_of_neg hn]; omega
    · have hs : 0 ≤ (fD bx jx).z.sign := Int.sign_nonneg_iff.2 (by omega)
      right
      cases hk : kn X5 Y5
      · exact .inl ⟨hs, rfl⟩
      · right
        have h0 : 0 ≤ (fD bx jx).q := by
          refine Decidable.byContradiction fun hc => ?_
          have := q_neg.1 (show (fD bx jx).q < 0 by grind)
          omega
        have k1 := hu2 hk h0
        have k2 := hv2 hk h0
        have v1 : decide (0 ≤ v.z.sign) = true := decide_eq_true (Int.sign_nonneg_iff.2 (by
          refine Decidable.byContradiction fun hc => ?_
          have := q_neg.2 (show v.z < 0 by omega)
          have := k2.1
          grind))
        have v2 : decide (0 ≤ cmpQ (dMul v v).q (fD bx jx).q) = true := decide_eq_true (by
          refine Decidable.byContradiction fun hc => ?_
          have h3 := cmpQ_lt0.1 (show cmpQ (dMul v v).q (fD bx jx).q < 0 by omega)
          rw [dMul_q] at h3
          have := k2.2
          grind)
        refine ⟨hs, rfl, ?_⟩
        by_cases hu : u.z ≤ 0
        · left
          refine ⟨decide_eq_true ?_, v1, v2⟩
          rcases Int.lt_or_eq_of_le hu with h | h
          · rw [Int.sign_eq_neg_one_of_neg h]; omega
          · rw [h]; decide
        · right
          have hup : 0 < u.q := q_pos.2 (by omega)
          refine ⟨decide_eq_false ?_, decide_eq_true ?_, v1, v2⟩
          · rw [Int.sign_eq_one_of_pos (by omega)]; omega
          · refine cmpQ_le.2 ?_
            rw [dMul_q]
            rcases k1 with h | h
            · grind
            · exact h
  by_cases hq0 : (fD by_ jy).z = 0
  · have hs0 : (fD by_ jy).z.sign = 0 := by rw [hq0]; rfl
    exact gh_no0 (N := 4000) (M := 100000) a1 a2 b1 b2 x y mx my (wordB bx jx) (wordB by_ jy) X1 Y1 X2 Y2 X3 Y3 X4 Y4 X5 Y5 (fD bx jx) (fD by_ jy) _ _ _ u v _ _ _ _ _ _ _ _ w (by omega) (by omega)
        (Lib.hid h1) (Lib.hid h2) (Lib.hid h3) (Lib.hid h4) (Lib.hid R4.hx) (Lib.hid R4.hy) (Lib.hid R5.hx) (Lib.hid R5.hy) (Lib.hid lx) (Lib.hid ly) hka hkb (finN bx hjx) (finN by_ hjy) m1' m2' m3' m4'
        (Lib.hid (rof_d bx hjx)) (Lib.hid (rof_d by_ hjy)) (Lib.hid (fD_can _ _)) (Lib.hid (fD_can _ _)) (Lib.hid Bp) (Lib.hid Bq) (Lib.hid (Bp.mono (by omega))) (Lib.hid rfl) (Lib.hid rfl) (Lib.hid rfl) (Lib.hid (Bp.add Bq (by omega))) (Lib.hid (Bp.sub Bq (by omega))) (Lib.hid (Bp.mul Bq (by omega)))
        (Lib.hid C1) (Lib.hid C2) (Lib.hid C3) (Lib.hid C4) (Lib.hid C5)
        (Lib.hid fun w b hb hT => has_res R1 (dAdd_q _ _) (Bp.add Bq (M := 100000) (by omega)) (by omega) (by omega) w b hb hT)
        (Lib.hid fun w b hb hT => has_res R2 (dSub_q _ _) (Bp.sub Bq (M := 100000) (by omega)) (by omega) (by omega) w b hb hT)
        (Lib.hid fun w b hb hT => has_res R3 (dMul_q _ _) (Bp.mul Bq (M := 100000) (by omega)) (by omega) (by omega) w b hb hT)
        (Lib.hid rfl) (Lib.hid rfl) (Lib.hid hu1) (Lib.hid hv1) (Lib.hid rfl) (Lib.hid rfl) (Lib.hid rfl) (Lib.hid rfl) (Lib.hid (dMul_can _ _)) (Lib.hid (dMul_can _ _)) (Lib.hid Bu) (Lib.hid Bv) (Lib.hid (Bu.mul Bu (by omega))) (Lib.hid (Bv.mul Bv (by omega))) (Lib.hid rfl) (Lib.hid rfl) (Lib.hid hrc) (Lib.hid hT) hs0
  · have hs0 : (fD by_ jy).z.sign ≠ 0 := fun hc => hq0 (Int.sign_eq_zero_iff_zero.1 hc)
    cases hk4 : kn X4 Y4
    · exact gh_nok (N := 4000) (M := 100000) a1 a2 b1 b2 x y mx my (wordB bx jx) (wordB by_ jy) X1 Y1 X2 Y2 X3 Y3 X4 Y4 X5 Y5 (fD bx jx) (fD by_ jy) _ _ _ u v _ _ _ _ _ _ _ _ w (by omega) (by omega)
        (Lib.hid h1) (Lib.hid h2) (Lib.hid h3) (Lib.hid h4) (Lib.hid R4.hx) (Lib.hid R4.hy) (Lib.hid R5.hx) (Lib.hid R5.hy) (Lib.hid lx) (Lib.hid ly) hka hkb (finN bx hjx) (finN by_ hjy) m1' m2' m3' m4'
        (Lib.hid (rof_d bx hjx)) (Lib.hid (rof_d by_ hjy)) (Lib.hid (fD_can _ _)) (Lib.hid (fD_can _ _)) (Lib.hid Bp) (Lib.hid Bq) (Lib.hid (Bp.mono (by omega))) (Lib.hid rfl) (Lib.hid rfl) (Lib.hid rfl) (Lib.hid (Bp.add Bq (by omega))) (Lib.hid (Bp.sub Bq (by omega))) (Lib.hid (Bp.mul Bq (by omega)))
        (Lib.hid C1) (Lib.hid C2) (Lib.hid C3) (Lib.hid C4) (Lib.hid C5)
        (Lib.hid fun w b hb hT => has_res R1 (dAdd_q _ _) (Bp.add Bq (M := 100000) (by omega)) (by omega) (by omega) w b hb hT)
        (Lib.hid fun w b hb hT => has_res R2 (dSub_q _ _) (Bp.sub Bq (M := 100000) (by omega)) (by omega) (by omega) w b hb hT)
        (Lib.hid fun w b hb hT => has_res R3 (dMul_q _ _) (Bp.mul Bq (M := 100000) (by omega)) (by omega) (by omega) w b hb hT)
        (Lib.hid rfl) (Lib.hid rfl) (Lib.hid hu1) (Lib.hid hv1) (Lib.hid rfl) (Lib.hid rfl) (Lib.hid rfl) (Lib.hid rfl) (Lib.hid (dMul_can _ _)) (Lib.hid (dMul_can _ _)) (Lib.hid Bu) (Lib.hid Bv) (Lib.hid (Bu.mul Bu (by omega))) (Lib.hid (Bv.mul Bv (by omega))) (Lib.hid rfl) (Lib.hid rfl) (Lib.hid hrc) (Lib.hid hT) hs0 hk4
    · obtain ⟨s, r, t, o, e1, e2, e3, e4, e5, e6⟩ := R4.enc hk4
      have hw := widthP_range 200
      obtain ⟨P, hP⟩ : ∃ P, widthP 200 = P := ⟨_, rfl⟩
      have hP2 : P = 200 := by rw [← hP]; rfl
      have d1 : (quoQ P false (fD bx jx) (fD by_ jy)).q ≤ (fD bx jx).q / (fD by_ jy).q := ((quoQ_rd (by omega) hq0 (quo_exists hq0)).dn rfl).1
      have d2 : (fD bx jx).q / (fD by_ jy).q ≤ (quoQ P true (fD bx jx) (fD by_ jy)).q := ((quoQ_rd (by omega) hq0 (quo_exists hq0)).upw rfl).1
      have bq : ∀ up, Bnd 100000 (quoQ P up (fD bx jx) (fD by_ jy)) := fun up => quoQ_bnd Bp Bq (by omega)
      have hc1 : decide (0 < cmpQ (fD s r).q (quoQ P true (fD bx jx) (fD by_ jy)).q) = false := decide_eq_false fun hc => by
        have := cmpQ_gt0.1 hc
        grind
      have hc2 : decide (cmpQ (fD t o).q (quoQ P false (fD bx jx) (fD by_ jy)).q < 0) = false := decide_eq_false fun hc => by
        have := cmpQ_lt0.1 hc
        grind
      exact gh_yes (N := 4000) (M := 100000) a1 a2 b1 b2 x y mx my (wordB bx jx) (wordB by_ jy) X1 Y1 X2 Y2 X3 Y3 X4 Y4 X5 Y5 (fD bx jx) (fD by_ jy) _ _ _ u v _ _ _ _ _ _ _ _ w (by omega) (by omega)
        (Lib.hid h1) (Lib.hid h2) (Lib.hid h3) (Lib.hid h4) (Lib.hid R4.hx) (Lib.hid R4.hy) (Lib.hid R5.hx) (Lib.hid R5.hy) (Lib.hid lx) (Lib.hid ly) hka hkb (finN bx hjx) (finN by_ hjy) m1' m2' m3' m4'
        (Lib.hid (rof_d bx hjx)) (Lib.hid (rof_d by_ hjy)) (Lib.hid (fD_can _ _)) (Lib.hid (fD_can _ _)) (Lib.hid Bp) (Lib.hid Bq) (Lib.hid (Bp.mono (by omega))) (Lib.hid rfl) (Lib.hid rfl) (Lib.hid rfl) (Lib.hid (Bp.add Bq (by omega))) (Lib.hid (Bp.sub Bq (by omega))) (Lib.hid (Bp.mul Bq (by omega)))
        (Lib.hid C1) (Lib.hid C2) (Lib.hid C3) (Lib.hid C4) (Lib.hid C5)
        (Lib.hid fun w b hb hT => has_res R1 (dAdd_q _ _) (Bp.add Bq (M := 100000) (by omega)) (by omega) (by omega) w b hb hT)
        (Lib.hid fun w b hb hT => has_res R2 (dSub_q _ _) (Bp.sub Bq (M := 100000) (by omega)) (by omega) (by omega) w b hb hT)
        (Lib.hid fun w b hb hT => has_res R3 (dMul_q _ _) (Bp.mul Bq (M := 100000) (by omega)) (by omega) (by omega) w b hb hT)
        (Lib.hid rfl) (Lib.hid rfl) (Lib.hid hu1) (Lib.hid hv1) (Lib.hid rfl) (Lib.hid rfl) (Lib.hid rfl) (Lib.hid rfl) (Lib.hid (dMul_can _ _)) (Lib.hid (dMul_can _ _)) (Lib.hid Bu) (Lib.hid Bv) (Lib.hid (Bu.mul Bu (by omega))) (Lib.hid (Bv.mul Bv (by omega))) (Lib.hid rfl) (Lib.hid rfl) (Lib.hid hrc) (Lib.hid hT) (fD s r) (fD t o) (quoQ P false (fD bx jx) (fD by_ jy)) (quoQ P true (fD bx jx) (fD by_ jy)) _ _ hs0 (Lib.hid hq0) hk4 (Lib.hid (by rw [e1]; exact rof_d s e3)) (Lib.hid (by rw [e2]; exact rof_d t e4)) (Lib.hid (fD_can _ _)) (Lib.hid (fD_can _ _)) (Lib.hid (bnd_wordG s r (by omega) (by omega))) (Lib.hid (bnd_wordG t o (by omega) (by omega))) (Lib.hid (bq _)) (Lib.hid (bq _)) (Lib.hid (by rw [hP]; rfl)) (Lib.hid (by rw [hP]; rfl)) (Lib.hid rfl) (Lib.hid rfl) hc1 hc2

end Fl
end Go.Proofs.YtkibkmdgibemkaaDoor
