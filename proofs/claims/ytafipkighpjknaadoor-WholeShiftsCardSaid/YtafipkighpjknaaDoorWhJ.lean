/-
  Whole numbers: shifted too far; rounded down.
-/
import Derived.Test.YtafipkighpjknaaDoorWhI
import Derived.Test.YtafipkighpjknaaDoorGDyA
namespace Go.Proofs.YtafipkighpjknaaDoor
open Go.RowKit
set_option linter.unusedSimpArgs false

set_option maxHeartbeats 3200000 in
set_option maxRecDepth 100000 in
theorem shlfar_w {w : World} {a : Value} {z : Int} (k : Int) (hk : k < 0 ∨ 16777216 < k) (ha : Hid (IV w a z)) : Calls Tryd.prog 42 #[a, .int .i64 k] w (WPostC 0 w) := by
  obtain ⟨s, A, n, c, rfl, hs⟩ := ha.out.form
  have hk2 := ((KB.start w).new 51 [.bool s, .slice A n c]).new 51 [.bool false, .slice none 0 0]
  simp only [World.size_alloc] at hk2
  obtain ⟨q0, q1, f0, f1⟩ := hk2.c2 0 rfl
  have HB := Lib.hid (hk2.blk 0 rfl)
  have HO := Lib.hid hk2.only
  clear hk2 hs ha
  have HC : Hid (Cn false 0 0) := ⟨by decide, by rw [show Int.natAbs 0 = 0 from rfl, limbsOf_zero]; rfl⟩
  clear HB
  rcases hk with hk | hk
  · go_enter Tryd.func42, Tryd.ntmps42
    go_wp2_with fail
    refine bodyPost_ret (v := .agg #[.bool false, .slice none 0 0]) (by simp [results, Tryd.results42, go_sem, q0, q1]) rfl ?_
    exact ⟨false, none, 0, 0, rfl, HC.out, IV.zero _, HO.out⟩
  · have hk0 : ¬ k < 0 := by omega
    go_enter Tryd.func42, Tryd.ntmps42
    go_wp2_with fail
    refine bodyPost_ret (v := .agg #[.bool false, .slice none 0 0]) (by simp [results, Tryd.results42, go_sem, q0, q1]) rfl ?_
    exact ⟨false, none, 0, 0, rfl, HC.out, IV.zero _, HO.out⟩
set_option maxHeartbeats 3200000 in
set_option maxRecDepth 100000 in
theorem floorfar_w {w : World} {a : Value} {z : Int} (k : Int) (hk : k < 0 ∨ 16777216 < k) (ha : Hid (IV w a z)) : Calls Tryd.prog 43 #[a, .int .i64 k] w (WPostC 0 w) := by
  obtain ⟨s, A, n, c, rfl, hs⟩ := ha.out.form
  have hk2 := ((KB.start w).new 51 [.bool s, .slice A n c]).new 51 [.bool false, .slice none 0 0]
  simp only [World.size_alloc] at hk2
  obtain ⟨q0, q1, f0, f1⟩ := hk2.c2 0 rfl
  have HB := Lib.hid (hk2.blk 0 rfl)
  have HO := Lib.hid hk2.only
  clear hk2 hs ha
  have HC : Hid (Cn false 0 0) := ⟨by decide, by rw [show Int.natAbs 0 = 0 from rfl, limbsOf_zero]; rfl⟩
  clear HB
  rcases hk with hk | hk
  · go_enter Tryd.func43, Tryd.ntmps43
    go_wp2_with fail
    refine bodyPost_ret (v := .agg #[.bool false, .slice none 0 0]) (by simp [results, Tryd.results43, go_sem, q0, q1]) rfl ?_
    exact ⟨false, none, 0, 0, rfl, HC.out, IV.zero _, HO.out⟩
  · have hk0 : ¬ k < 0 := by omega
    go_enter Tryd.func43, Tryd.ntmps43
    go_wp2_with fail
    refine bodyPost_ret (v := .agg #[.bool false, .slice none 0 0]) (by simp [results, Tryd.results43, go_sem, q0, q1]) rfl ?_
    exact ⟨false, none, 0, 0, rfl, HC.out, IV.zero _, HO.out⟩

theorem signH_w {w : World} {a : Value} {z : Int} (q : Int) (hq : z.sign = q) (ha : Hid (IV w a z)) : Calls Tryd.prog 52 #[a] w fun e w' => e = .returned (.int .i64 q) ∧ Only [] w w' := hq ▸ sign_w ha
theorem low_lt {n k : Nat} (h : n ≠ 0) : lowN n < k ↔ 0 < n % 2 ^ k := by
  obtain ⟨m, hm⟩ := lowN_spec h
  generalize lowN n = l at hm
  subst hm
  constructor
  · intro hl
    apply Nat.pos_of_ne_zero
    intro h0
    have h1 : 2 ^ k ∣ 2 ^ l * (2 * m + 1) := Nat.dvd_of_mod_eq_zero h0
    have h2 : 2 ^ (l + 1) ∣ 2 ^ l * (2 * m + 1) := Nat.dvd_trans (Nat.pow_dvd_pow 2 (by omega)) h1
    rw [Nat.pow_succ] at h2
    have h3 := Nat.dvd_of_mul_dvd_mul_left (Nat.pow_pos (by omega)) h2
    omega
  · intro h0
    apply Nat.lt_of_not_le
    intro hl
    have h1 : 2 ^ k ∣ 2 ^ l * (2 * m + 1) := Nat.dvd_trans (Nat.pow_dvd_pow 2 hl) (Nat.dvd_mul_right _ _)
    have := Nat.mod_eq_zero_of_dvd h1
    omega
theorem floor_val (s : Bool) (n k : Nat) : sg s (n / 2 ^ k + if 0 < n % 2 ^ k ∧ s = true then 1 else 0) = quoI false (sg s n) (2 ^ k : Int) := by
  have h := quo_sg false s false n (2 ^ k) (Nat.pos_iff_ne_zero.1 (Nat.pow_pos (by omega)))
  rw [Bool.bne_false, sg_false] at h
  have e : ((2 ^ k : Nat) : Int) = (2 : Int) ^ k := by push_cast; rfl
  rw [e] at h
  rw [← h]
  congr 2
  cases s <;> simp
set_option maxHeartbeats 3200000 in
set_option maxRecDepth 100000 in
theorem floor_w {w : World} {a : Value} {z : Int} (k : Nat) (hk : (k : Int) ≤ 16777216) (ha : Hid (IV w a z)) (hf : Hid (Few (z.natAbs + 1))) (hT : Hid (Tab6 w)) : Calls Tryd.prog 43 #[a, .int .i64 (k : Int)] w (WPostC (quoI false z (2 ^ k : Int)) w) := by
  obtain ⟨s, A, n, c, rfl, hs⟩ := ha.out.form
  have hk2 := ((KB.start w).new 51 [.bool s, .slice A n c]).new 51 [.bool false, .slice none 0 0]
  simp only [World.size_alloc] at hk2
  have HM := Lib.hid (ha.out.mag.only hk2.only)
  have HK := Lib.hid hk2
  have HI := ha
  have hsv := floor_val s z.natAbs k
  rw [hs] at hsv
  have HF : Hid (Few (shlN z.natAbs (-(k : Int)))) := by
    show Few _
    rw [shlN_down _ _ hk]
    exact hf.out.le (Nat.le_trans (Nat.div_le_self _ _) (Nat.le_succ _))
  have HDn : Hid (shlN z.natAbs (-(k : Int)) = z.natAbs / 2 ^ k) := shlN_down _ _ hk
  have HFq : Hid (Few (z.natAbs / 2 ^ k + 1)) := hf.out.le (Nat.succ_le_succ (Nat.div_le_self _ _))
  obtain ⟨lo, hlo⟩ : ∃ l, lowN z.natAbs = l := ⟨_, rfl⟩
  have HLo := Lib.hid hlo
  have hk0 : ¬ (k : Int) < 0 := by omega
  have hss : s = true → z ≠ 0 → z < 0 := fun h1 h2 => by
    subst h1
    rw [sg_true] at hs
    omega
  have hss2 : s = false → ¬ z < 0 := fun h1 h2 => by
    subst h1
    rw [sg_false] at hs
    omega
  have hzs := sign_of z
  obtain ⟨i0, i1, -, -⟩ := hk2.c2 1 rfl
  clear hk2 ha
  by_cases hneg : z < 0
  · have hz1 : z.sign = -1 := by omega
    have hz0 : z.natAbs ≠ 0 := by omega
    have hl := low_lt (k := k) hz0
    rw [hlo] at hl
    have hst : s = true := by
      cases s
      · exact absurd hneg (hss2 rfl)
      · rfl
    by_cases hlk : lo < k
    · have HS : Hid (sg s (z.natAbs / 2 ^ k + 1) = quoI false z (2 ^ k : Int)) := by
        show _ = _
        rw [← hsv, if_pos ⟨hl.1 hlk, hst⟩]
      have hlki : (lo : Int) < (k : Int) := by omega
      clear hsv hl hst hz0 hneg hss hss2 hlk hs hlo hzs
      go_enter Tryd.func43, Tryd.ntmps43
      go_wp2_with fail
      (with_reducible refine (shr_v (k : Int) HM HF).mono ?_)
      rintro e w2 ⟨A2, k2, c2, rfl, -, hv, ho⟩
      rw [HDn.out] at hv
      replace HK := Lib.hid (HK.out.step ho)
      replace HM := Lib.hid (HM.out.only ho)
      have HQ := Lib.hid hv
      clear hv ho i0 i1
      obtain ⟨i0, i1, -, -⟩ := HK.out.c2 1 rfl
      go_wp2_with fail
      (with_reducible refine (sign_w (Lib.hid (HI.out.only HK.out.only))).mono ?_)
      rintro e w3 ⟨rfl, ho⟩
      replace HK := Lib.hid (HK.out.step ho)
      replace HM := Lib.hid (HM.out.only ho)
      replace HQ := Lib.hid (HQ.out.only ho)
      clear ho i0 i1
      rw [hz1]
      obtain ⟨i0, i1, -, -⟩ := HK.out.c2 1 rfl
      go_wp2_with fail
      (with_reducible refine (low_v HM (Lib.hid (hT.out.keep HK.out.only))).mono ?_)
      rintro e w4 ⟨rfl, rfl⟩
      rw [HLo.out]
      clear i0 i1
      go_wp2_with fail
      (with_reducible refine (of_lit 1 1 w3 (Lib.hid (by rw [BB_val]; omega)) (Lib.hid rfl)).mono ?_)
      rintro e w5 ⟨A5, k5, c5, rfl, -, hv, ho⟩
      replace HK := Lib.hid (HK.out.step ho)
      replace HQ := Lib.hid (HQ.out.only ho)
      have HV5 := Lib.hid hv
      clear hv ho
      go_wp2_with fail
      (with_reducible refine (add2_v HQ HV5 HFq).mono ?_)
      rintro e w7 ⟨A7, k7, c7, rfl, -, hv, ho⟩
      replace HK := Lib.hid (HK.out.step ho)
      have HV7 := Lib.hid hv
      clear hv ho HQ HV5
      obtain ⟨i0, i1, -, -⟩ := HK.out.c2 1 rfl
      go_wp2_with fail
      (with_reducible refine (makeH_w s HV7 HS.out).mono ?_)
      rintro e w6 ⟨s6, A6, k6, c6, rfl, hs6, hr6, hv6, ho⟩
      have HV6 := Lib.hid hv6
      have HC6 : Hid (Cn s6 k6 (quoI false z (2 ^ k : Int))) := ⟨hs6, hr6.len⟩
      have hkk := HK.out.step ho
      obtain ⟨q0, q1, f0, f1⟩ := hkk.c2 0 rfl
      have HB := Lib.hid (hkk.blk 0 rfl)
      have HO := Lib.hid hkk.only
      clear hkk HK hs6 hr6 hv6 ho i0 i1
      generalize quoI false z (2 ^ k : Int) = r at *
      have hfin := dfinW HV6 HC6 (Nat.le_succ w.heap.size) HB.out (noLimb2 _ _ _ _) HO.out (only_set2 w6 (w.heap.size + 1) (.bool s6) (.slice A6 k6 c6))
      have HFin := Lib.hid hfin
      have hBs := (HB.out.set_ 0 (.bool s6)).set_ 1 (.slice A6 k6 c6)
      have c0 := hBs.cell 0
      have c1 := hBs.cell 1
      simp only [List.set_cons_zero, List.set_cons_succ, List.getElem?_cons_zero, List.getElem?_cons_succ] at c0 c1
      clear hfin hBs HB HO
      go_wp2_with fail
      refine bodyPost_ret (v := .agg #[.bool s6, .slice A6 k6 c6]) (by simp [results, Tryd.results43, go_sem, q0, q1]) rfl ?_
      exact HFin.out
    · have HS : Hid (sg s (z.natAbs / 2 ^ k) = quoI false z (2 ^ k : Int)) := by
        show _ = _
        rw [← hsv, if_neg (fun h => hlk (hl.2 h.1)), Nat.add_zero]
      have hlki : ¬ (lo : Int) < (k : Int) := by omega
      clear hsv hl hst hz0 hneg hss hss2 hlk hs hlo hzs
      go_enter Tryd.func43, Tryd.ntmps43
      go_wp2_with fail
      (with_reducible refine (shr_v (k : Int) HM HF).mono ?_)
      rintro e w2 ⟨A2, k2, c2, rfl, -, hv, ho⟩
      rw [HDn.out] at hv
      replace HK := Lib.hid (HK.out.step ho)
      replace HM := Lib.hid (HM.out.only ho)
      have HQ := Lib.hid hv
      clear hv ho i0 i1
      obtain ⟨i0, i1, -, -⟩ := HK.out.c2 1 rfl
      go_wp2_with fail
      (with_reducible refine (sign_w (Lib.hid (HI.out.only HK.out.only))).mono ?_)
      rintro e w3 ⟨rfl, ho⟩
      replace HK := Lib.hid (HK.out.step ho)
      replace HM := Lib.hid (HM.out.only ho)
      replace HQ := Lib.hid (HQ.out.only ho)
      clear ho i0 i1
      rw [hz1]
      obtain ⟨i0, i1, -, -⟩ := HK.out.c2 1 rfl
      go_wp2_with fail
      (with_reducible refine (low_v HM (Lib.hid (hT.out.keep HK.out.only))).mono ?_)
      rintro e w4 ⟨rfl, rfl⟩
      rw [HLo.out]
      clear i0 i1
      obtain ⟨i0, i1, -, -⟩ := HK.out.c2 1 rfl
      go_wp2_with fail
      (with_reducible refine (makeH_w s HQ HS.out).mono ?_)
      rintro e w6 ⟨s6, A6, k6, c6, rfl, hs6, hr6, hv6, ho⟩
      have HV6 := Lib.hid hv6
      have HC6 : Hid (Cn s6 k6 (quoI false z (2 ^ k : Int))) := ⟨hs6, hr6.len⟩
      have hkk := HK.out.step ho
      obtain ⟨q0, q1, f0, f1⟩ := hkk.c2 0 rfl
      have HB := Lib.hid (hkk.blk 0 rfl)
      have HO := Lib.hid hkk.only
      clear hkk HK hs6 hr6 hv6 ho i0 i1
      generalize quoI false z (2 ^ k : Int) = r at *
      have hfin := dfinW HV6 HC6 (Nat.le_succ w.heap.size) HB.out (noLimb2 _ _ _ _) HO.out (only_set2 w6 (w.heap.size + 1) (.bool s6) (.slice A6 k6 c6))
      have HFin := Lib.hid hfin
      have hBs := (HB.out.set_ 0 (.bool s6)).set_ 1 (.slice A6 k6 c6)
      have c0 := hBs.cell 0
      have c1 := hBs.cell 1
      simp only [List.set_cons_zero, List.set_cons_succ, List.getElem?_cons_zero, List.getElem?_cons_succ] at c0 c1
      clear hfin hBs HB HO
      go_wp2_with fail
      refine bodyPost_ret (v := .agg #[.bool s6, .slice A6 k6 c6]) (by simp [results, Tryd.results43, go_sem, q0, q1]) rfl ?_
      exact HFin.out
  · have hz1 : ¬ z.sign < 0 := by omega
    have HS : Hid (sg s (z.natAbs / 2 ^ k) = quoI false z (2 ^ k : Int)) := by
      show _ = _
      rw [← hsv, if_neg, Nat.add_zero]
      rintro ⟨h1, h2⟩
      by_cases hz0 : z = 0
      · rw [hz0] at h1
        simp at h1
      · exact hneg (hss h2 hz0)
    clear hsv hneg hss hss2 hs hlo hzs HLo hT
    obtain ⟨sz, hsz⟩ : ∃ sz, z.sign = sz := ⟨_, rfl⟩
    rw [hsz] at hz1
    go_enter Tryd.func43, Tryd.ntmps43
    go_wp2_with fail
    (with_reducible refine (shr_v (k : Int) HM HF).mono ?_)
    rintro e w2 ⟨A2, k2, c2, rfl, -, hv, ho⟩
    rw [HDn.out] at hv
    replace HK := Lib.hid (HK.out.step ho)
    replace HM := Lib.hid (HM.out.only ho)
    have HQ := Lib.hid hv
    clear hv ho i0 i1
    obtain ⟨i0, i1, -, -⟩ := HK.out.c2 1 rfl
    go_wp2_with fail
    (with_reducible refine (signH_w sz hsz (Lib.hid (HI.out.only HK.out.only))).mono ?_)
    rintro e w3 ⟨rfl, ho⟩
    replace HK := Lib.hid (HK.out.step ho)
    replace HM := Lib.hid (HM.out.only ho)
    replace HQ := Lib.hid (HQ.out.only ho)
    clear ho i0 i1
    obtain ⟨i0, i1, -, -⟩ := HK.out.c2 1 rfl
    go_wp2_with fail
    (with_reducible refine (makeH_w s HQ HS.out).mono ?_)
    rintro e w6 ⟨s6, A6, k6, c6, rfl, hs6, hr6, hv6, ho⟩
    have HV6 := Lib.hid hv6
    have HC6 : Hid (Cn s6 k6 (quoI false z (2 ^ k : Int))) := ⟨hs6, hr6.len⟩
    have hkk := HK.out.step ho
    obtain ⟨q0, q1, f0, f1⟩ := hkk.c2 0 rfl
    have HB := Lib.hid (hkk.blk 0 rfl)
    have HO := Lib.hid hkk.only
    clear hkk HK hs6 hr6 hv6 ho i0 i1
    generalize quoI false z (2 ^ k : Int) = r at *
    have hfin := dfinW HV6 HC6 (Nat.le_succ w.heap.size) HB.out (noLimb2 _ _ _ _) HO.out (only_set2 w6 (w.heap.size + 1) (.bool s6) (.slice A6 k6 c6))
    have HFin := Lib.hid hfin
    have hBs := (HB.out.set_ 0 (.bool s6)).set_ 1 (.slice A6 k6 c6)
    have c0 := hBs.cell 0
    have c1 := hBs.cell 1
    simp only [List.set_cons_zero, List.set_cons_succ, List.getElem?_cons_zero, List.getElem?_cons_succ] at c0 c1
    clear hfin hBs HB HO
    go_wp2_with fail
    refine bodyPost_ret (v := .agg #[.bool s6, .slice A6 k6 c6]) (by simp [results, Tryd.results43, go_sem, q0, q1]) rfl ?_
    exact HFin.out
end Go.Proofs.YtafipkighpjknaaDoor
