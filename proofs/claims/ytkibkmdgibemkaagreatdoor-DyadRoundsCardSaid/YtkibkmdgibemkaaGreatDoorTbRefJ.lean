/-
  The reference's numbers: DivMod, Sqrt.
-/
import Derived.Test.YtkibkmdgibemkaaGreatDoorTbRefI
namespace Go.Proofs.YtkibkmdgibemkaaGreatDoor
open Go.RowKit

/-- DivMod, of a divisor that is not 0. -/
theorem rdivmod_v {w : World} {a b : Value} {m n : Nat} (ha : Hid (RV w a m)) (hb : Hid (RV w b n)) (hfa : Hid (Few m)) (hfb : Hid (Few n)) (hn : 0 < n) : Calls Tryz.prog 22 #[a, b] w (RDPost m n w) := by
  by_cases hlt : m < n
  · exact rdivmod_lt ha hb hfa hfb (Lib.hid hlt)
  · have h2 : (R.limbsOf n).length ≠ 0 := fun h => by rw [R.limbsOf_len0] at h; omega
    by_cases h1 : (R.limbsOf n).length = 1
    · exact rdivmod_one ha hb hfa hfb (Lib.hid (by omega)) (Lib.hid h1)
    · exact rdivmod_long ha hb hfa hfb (Lib.hid (by omega)) (Lib.hid (by omega))

theorem RV.same {w : World} {v : Value} {m n : Nat} (h : RV w v m) (h' : RV w v n) : m = n := by
  obtain ⟨A, c, rfl, h2, h3⟩ := h
  obtain ⟨A', c', e, k2, k3⟩ := h'
  injection e with e1 e2 e3
  subst e1 e3
  have e : R.limbsOf m = R.limbsOf n := by
    apply List.ext_getElem e2
    intro i h4 h5
    obtain ⟨b, o, rfl, hc⟩ := h2 i h4
    obtain ⟨b', o', e, hc'⟩ := k2 i h5
    injection e with e
    injection e with e7 e8 _
    subst e7 e8
    rw [hc] at hc'
    rw [List.getElem?_eq_getElem h4, List.getElem?_eq_getElem h5] at hc'
    simp only [Option.getD_some, Option.some.injEq, Value.int.injEq, true_and] at hc'
    omega
  rw [← R.val_limbsOf m, e, R.val_limbsOf]
/-- The number that a slice of the reference's reads as. -/
noncomputable def rvAt (w : World) (v : Value) : Nat := @dite _ (∃ n, RV w v n) (Classical.propDecidable _) (fun h => Classical.choose h) (fun _ => 0)
theorem rvAt_eq {w : World} {v : Value} {n : Nat} (h : RV w v n) : rvAt w v = n := by
  have hx : ∃ n, RV w v n := ⟨n, h⟩
  unfold rvAt
  rw [dif_pos hx]
  exact (Classical.choose_spec hx).same h
theorem rroot_start {m s b : Nat} (hs : IsRoot m s) (hb : bitsN m = b) : s ≤ 1 * 2 ^ ((b + 1) / 2) := by
  have h1 := hs.1
  have h2 : m < 2 ^ b := by
    rw [← hb]
    unfold bitsN
    by_cases h0 : m = 0
    · rw [if_pos h0]; omega
    · rw [if_neg h0]; exact Nat.lt_log2_self
  have h3 : 2 ^ b ≤ 2 ^ ((b + 1) / 2) * 2 ^ ((b + 1) / 2) := by
    rw [← Nat.pow_add]
    exact Nat.pow_le_pow_right (by omega) (by omega)
  rw [Nat.one_mul]
  generalize 2 ^ ((b + 1) / 2) = p at *
  apply Nat.le_of_not_lt
  intro hc
  have h4 := Nat.mul_le_mul (Nat.le_of_lt hc) (Nat.le_of_lt hc)
  omega

set_option maxHeartbeats 1600000 in
set_option maxRecDepth 100000 in
theorem rsqrt_v {w : World} {a : Value} {m : Nat} (ha : Hid (RV w a m)) (hf : Hid (Few m)) : Calls Tryz.prog 130 #[a] w (RPost (rootN m) w) := by
  have hl := hf.out.digits
  obtain ⟨A, c, rfl, p1, p2⟩ := ha.out
  clear p1 p2
  by_cases h0 : m = 0
  · subst h0
    rw [R.limbsOf_zero]
    go_enter Tryz.func130, Tryz.ntmps130
    go_wp2_with fail
    go_ret
    exact ⟨none, 0, 0, rfl, by rw [show rootN 0 = 0 by rw [rootN]; rfl]; exact RV.nil _, fun x hx => (by cases hx), Only.refl _ _⟩
  · have hl0 : (R.limbsOf m).length ≠ 0 := fun h => by rw [R.limbsOf_len0] at h; omega
    obtain ⟨b, hb⟩ : ∃ b, bitsN m = b := ⟨_, rfl⟩
    have HIs := Lib.hid (rootN_is m)
    have HSt := Lib.hid (rroot_start HIs.out hb)
    have hb64 : (b : Int) ≤ 64000000 := by
      have h1 : m < 2 ^ (64 * MX) := by
        have h2 := hf.out
        unfold Few at h2
        rw [BB_pow, ← Nat.pow_mul] at h2
        exact h2
      rw [← hb]
      unfold bitsN
      rw [if_neg h0]
      have := (Nat.log2_lt h0).2 h1
      rw [MX_val] at this
      omega
    obtain ⟨ln, hln⟩ : ∃ ln, (R.limbsOf m).length = ln := ⟨_, rfl⟩
    rw [hln] at hl hl0 ha ⊢
    have hz : ((ln : Int) == 0) = false := by rw [beq_eq_false_iff_ne]; omega
    obtain ⟨h2, hh2⟩ : ∃ h2, (b + 1) / 2 = h2 := ⟨_, rfl⟩
    rw [hh2] at HSt
    obtain ⟨b1, hb1⟩ : ∃ b1, b + 1 = b1 := ⟨_, rfl⟩
    have e1 : (b : Int) + 1 = (b1 : Int) := by omega
    have e2 : (b1 : Int) / 2 = (h2 : Int) := by omega
    have e3 : (b1 : Int).tdiv 2 = (h2 : Int) := by rw [Int.tdiv_eq_ediv_of_nonneg (by omega)]; exact e2
    have hh : (h2 : Int) ≤ 40000000 := by omega
    have HBe := Lib.hid hb
    have HX0 : Hid (0 < rootN m) := by
      apply Nat.pos_of_ne_zero
      intro h
      have h1 := HIs.out.2
      rw [h] at h1
      omega
    have HF1 : Hid (Few 1) := few_small (by rw [BB_val]; omega)
    have HF0 : Hid (Few (1 * 2 ^ h2)) := by
      show Few _
      rw [Nat.one_mul]
      unfold Few
      rw [BB_pow, ← Nat.pow_mul]
      exact Nat.pow_lt_pow_right (by omega) (by rw [MX_val]; omega)
    clear hb hln hh2 hb1 h0
    go_enter Tryz.func130, Tryz.ntmps130
    go_wp2_with fail
    refine (rsmall_lit 1 1 w (Lib.hid (by rw [BB_val]; omega)) (Lib.hid rfl)).mono ?_
    rintro e w1 ⟨A1, k1, c1, rfl, hv1, -, ho1⟩
    have HV1 := Lib.hid hv1
    have HO1 := Lib.hid ho1
    clear hv1 ho1
    go_wp2_with fail
    refine (rbits_v (Lib.hid (ha.out.only HO1.out)) hf).mono ?_
    rintro e w1' ⟨rfl, rfl⟩
    rw [HBe.out]
    go_wp2_with fail
    refine (rshl_v h2 (by omega) HV1 HF1).mono ?_
    rintro e w2 ⟨A2, k2, c2, rfl, hv2, hf2, ho2⟩
    have HV2 := Lib.hid hv2
    have HF2 : Hid (∀ x, A2 = some x → w.heap.size ≤ x.block) := fun x hx => Nat.le_trans HO1.out.size (hf2 x hx)
    have HO2 := Lib.hid (HO1.out.nil_trans ho2)
    clear hv2 hf2 ho2
    go_wp2_with fail
    go_loopw [3] (fun rv wr => ∃ (r k c : Nat) (A : Option Addr), rv = .slice A k c ∧ RV wr (.slice A k c) r ∧ rootN m ≤ r ∧ r ≤ 1 * 2 ^ h2 ∧ (∀ x, A = some x → w.heap.size ≤ x.block) ∧ Only [] w wr) (fun rv wr => rvAt wr rv)
    case atStart => exact ⟨_, k2, c2, A2, rfl, HV2.out, HSt.out, Nat.le_refl _, HF2.out, HO2.out⟩
    case round =>
      obtain ⟨r, kr, cr, Ar, rfl, hvr, hr1, hr2, hfr, hor⟩ := hrel
      have HVr := Lib.hid hvr
      have HMe := Lib.hid (rvAt_eq hvr)
      have HFr := Lib.hid hfr
      have HOr := Lib.hid hor
      have HR12 : Hid (rootN m ≤ r ∧ r ≤ 1 * 2 ^ h2) := ⟨hr1, hr2⟩
      have HRp : Hid (0 < r) := Nat.lt_of_lt_of_le HX0.out hr1
      have HFewR : Hid (Few r) := HF0.out.le hr2
      have HDone := Lib.hid (newton_done HRp.out HIs.out hr1)
      have HStep := Lib.hid (newton_step HRp.out HIs.out hr1)
      have HQle : Hid (m / r ≤ rootN m + 2) := by
        have h1 : m / r ≤ m / rootN m := Nat.div_le_div_left hr1 HX0.out
        have h2 : m / rootN m < rootN m + 3 := by
          rw [Nat.div_lt_iff_lt_mul HX0.out]
          have h3 := HIs.out.2
          have h4 := HX0.out
          generalize rootN m = rt at *
          rw [Nat.add_mul, Nat.mul_add, Nat.mul_one, Nat.one_mul] at h3
          rw [Nat.add_mul]
          omega
        show _ ≤ _
        omega
      clear hvr hr1 hr2 hfr hor
      go_wp2_with fail
      refine (rdivmod_v (Lib.hid (ha.out.only HOr.out)) HVr hf HFewR HRp.out).mono ?_
      rintro e w6 ⟨A6, k6, c6, A7, k7, c7, rfl, hq, -, -, ho6⟩
      obtain ⟨q, hqe⟩ : ∃ q, m / r = q := ⟨_, rfl⟩
      rw [hqe] at hq HDone HStep HQle
      have HV6 := Lib.hid hq
      have HO6 := Lib.hid ho6
      have HFewS : Hid (Few (r + q)) := by
        have h1 := HR12.out
        have h6 := HQle.out
        show _ < _
        have h3 : 1 * 2 ^ h2 + (1 * 2 ^ h2 + 2) ≤ 2 ^ (h2 + 2) := by
          have : 0 < 2 ^ h2 := Nat.pow_pos (by omega)
          rw [Nat.pow_add]
          omega
        have h4 : 2 ^ (h2 + 2) < BB ^ MX := by
          rw [BB_pow, ← Nat.pow_mul]
          exact Nat.pow_lt_pow_right (by omega) (by rw [MX_val]; omega)
        omega
      have HFewQ : Hid (Few q) := HFewS.out.le (by omega)
      clear hq ho6 hqe
      go_wp2_with fail
      refine (radd_v (Lib.hid (HVr.out.only HO6.out)) HV6 HFewR HFewQ).mono ?_
      rintro e w8 ⟨A8, k8, c8, rfl, hv8, -, ho8⟩
      have HV8 := Lib.hid hv8
      have HO8 := Lib.hid (HO6.out.nil_trans ho8)
      clear hv8 ho8
      go_wp2_with fail
      have hsh := rshr_v 1 (by omega) HV8 HFewS
      rw [show ((1 : Nat) : Int) = 1 from rfl, Nat.pow_one] at hsh
      refine hsh.mono ?_
      clear hsh
      rintro e w9 ⟨A9, k9, c9, rfl, hv9, hf9, ho9⟩
      have HV9 := Lib.hid hv9
      have HO9 := Lib.hid (HO8.out.nil_trans ho9)
      have HF9 : Hid (∀ x, A9 = some x → w.heap.size ≤ x.block) := fun x hx => by
        have h1 := hf9 x hx
        have h2 := HOr.out.size
        have h3 := HO8.out.size
        omega
      clear hv9 ho9 hf9
      have HFew9 : Hid (Few ((r + q) / 2)) := HFewS.out.le (Nat.div_le_self _ _)
      go_wp2_with fail
      refine (rcmp_v HV9 (Lib.hid (HVr.out.only HO9.out)) HFew9 HFewR).mono ?_
      rintro e w10 ⟨rfl, ho10⟩
      have HO10 := Lib.hid (HO9.out.nil_trans ho10)
      have HV10 := Lib.hid (HV9.out.only ho10)
      clear ho10
      by_cases hle : r ≤ q
      · have hcz : (0 : Int) ≤ cmpZ ((r + q) / 2) r := by
          rcases Nat.lt_or_eq_of_le (show r ≤ (r + q) / 2 by omega) with h | h
          · rw [cmp_gt h]; omega
          · rw [cmp_eq h.symm]; omega
        have HE : Hid (r = rootN m) := HDone.out hle
        generalize cmpZ ((r + q) / 2) r = z at *
        clear hle
        go_wp2_with fail
        go_ret
        exact ⟨_, _, _, rfl, by rw [← HE.out]; exact HVr.out.only HO10.out, HFr.out, HOr.out.nil_trans HO10.out⟩
      · have hcz : ¬ (0 : Int) ≤ cmpZ ((r + q) / 2) r := by rw [cmp_le (by omega)]; omega
        have HG := Lib.hid (HStep.out (by omega))
        generalize cmpZ ((r + q) / 2) r = z at *
        clear hle
        go_wp2_with fail
        go_roundw
        case rel => exact ⟨_, _, _, _, rfl, HV10.out, HG.out.1, by have := HG.out.2; have := HR12.out.2; omega, HF9.out, HOr.out.nil_trans HO10.out⟩
        case measure => rw [HMe.out, rvAt_eq HV10.out]; exact HG.out.2
end Go.Proofs.YtkibkmdgibemkaaGreatDoor
