/-
  The reference's dyads: cut, Round.
-/
import Derived.Test.YtkibkmdgibemkaaGreatDoorTbRdC
import Derived.Test.YtkibkmdgibemkaaGreatDoorTbRefJ
import Derived.Test.YtkibkmdgibemkaaGreatDoorTbREnv
import Derived.Test.YtkibkmdgibemkaaGreatDoorTbGRd
namespace Go.Proofs.YtkibkmdgibemkaaGreatDoor
set_option linter.unusedSimpArgs false
open Go.RowKit

set_option maxHeartbeats 3200000 in
set_option maxRecDepth 100000 in
theorem rcut_core {w : World} {a : Value} {m : Nat} (neg rest q1 dd : Bool) (e e1 nn dir cz : Int) (b P m1 m2 N : Nat) (r : Dy) (hb : Hid (bitsN m = b)) (hnn : IntKind.i64.wrap ((b : Int) - (P : Int)) = nn) (hdd : (neg == decide (dir < 0)) = dd)
    (hcase : Hid ((nn ≤ 0 ∧ m1 = m ∧ e1 = e ∧ q1 = rest) ∨ (0 < nn ∧ nn = (N : Int) ∧ m / 2 ^ N = m1 ∧ IntKind.i64.wrap (e + (N : Int)) = e1 ∧ rest = true ∧ q1 = true) ∨ (0 < nn ∧ nn = (N : Int) ∧ m / 2 ^ N = m1 ∧ IntKind.i64.wrap (e + (N : Int)) = e1 ∧ rest = false ∧ cmpZ (m1 * 2 ^ N) m = cz ∧ (cz != 0) = q1)))
    (hm2 : Hid (((q1 && dd) = true → m1 + 1 = m2) ∧ ((q1 && dd) = false → m1 = m2))) (hr : Hid (nrm (sg neg m2) e1 = r)) (ha : Hid (RV w a m)) (hf : Hid (Few m)) (hf1 : Hid (Few m1)) (hf2 : Hid (Few m2)) (hf3 : Hid (Few (m1 * 2 ^ N))) (hN : (N : Int) ≤ 90000000) (he1 : -4000000000000000000 ≤ e1) (he2 : e1 ≤ 4000000000000000000) :
    Calls Tryz.prog 129 #[.bool neg, a, .int .i64 e, .bool rest, .int .i64 (P : Int), .int .i64 dir] w (RDP r w) := by
  have hk := (KB.start w).new 62 [.bool false, .slice none 0 0, .int .i64 0]
  have HR := Lib.hid (((RVs.start w).push ha.out).step hk.only)
  have HK := Lib.hid hk
  clear hk
  go_enter Tryz.func129, Tryz.ntmps129
  go_wp2_with fail
  (with_reducible refine (rbitsV_v b (RVs.at HR 0 rfl rfl) hf hb.out).mono ?_)
  rintro e0 w1 ⟨rfl, rfl⟩
  rcases hcase.out with ⟨h1, rfl, rfl, rfl⟩ | ⟨h1, h2, h3, h4, rfl, rfl⟩ | ⟨h1, h2, h3, h4, rfl, h5, h6⟩
  · clear hcase hf3
    go_upto_region 6 with fail
    cases q1
    · have h3 := hm2.out.2 (by simp)
      subst h3
      go_wp2_with fail
      (with_reducible refine (rmake_d neg e1 (RVs.at HR 0 rfl rfl) hf2 he1 he2 hr.out).mono ?_)
      rintro e w9 ⟨s9, A9, k9, c9, rfl, hc, hv, ho⟩
      replace HK := Lib.hid (HK.out.step ho)
      have HC := Lib.hid hc
      have HV := Lib.hid hv
      clear hc hv ho
      obtain ⟨q0, q1_, q2, f0, f1, f2⟩ := HK.out.c3 0 rfl
      go_wp2_with fail
      refine bodyPost_ret (v := .agg #[.bool s9, .slice A9 k9 c9, .int .i64 (r.e)]) (by simp [results, Tryz.results129, go_sem, q0, q1_, q2]) rfl ?_
      exact rdfin HV HC (by omega) (HK.out.blk 0 rfl) (noLimb3 _ _ _ _ _) HK.out.only (only_set3 _ _ _ _ _)
    · skip
      cases dd
      · have h3 := hm2.out.2 (by simp)
        subst h3
        go_wp2_with fail
        (with_reducible refine (rmake_d neg e1 (RVs.at HR 0 rfl rfl) hf2 he1 he2 hr.out).mono ?_)
        rintro e w9 ⟨s9, A9, k9, c9, rfl, hc, hv, ho⟩
        replace HK := Lib.hid (HK.out.step ho)
        have HC := Lib.hid hc
        have HV := Lib.hid hv
        clear hc hv ho
        obtain ⟨q0, q1_, q2, f0, f1, f2⟩ := HK.out.c3 0 rfl
        go_wp2_with fail
        refine bodyPost_ret (v := .agg #[.bool s9, .slice A9 k9 c9, .int .i64 (r.e)]) (by simp [results, Tryz.results129, go_sem, q0, q1_, q2]) rfl ?_
        exact rdfin HV HC (by omega) (HK.out.blk 0 rfl) (noLimb3 _ _ _ _ _) HK.out.only (only_set3 _ _ _ _ _)
      · have h3 := hm2.out.1 (by simp)
        have H3 := Lib.hid h3
        clear h3
        go_wp2_with fail
        (with_reducible refine (rsmall_lit 1 1 _ (Lib.hid (by unfold BB; omega)) (Lib.hid rfl)).mono ?_)
        rintro e w5 ⟨A5, k5, c5, rfl, hv, -, ho⟩
        replace HK := Lib.hid (HK.out.step ho)
        replace HR := Lib.hid ((HR.out.step ho).push hv)
        clear hv ho
        go_wp2_with fail
        (with_reducible refine (radd_v (RVs.at HR 1 rfl rfl) (RVs.at HR 0 rfl rfl) hf1 (Lib.hid (few_small (by unfold BB; omega)))).mono ?_)
        rintro e w6 ⟨A6, k6, c6, rfl, hv, -, ho⟩
        rw [H3.out] at hv
        replace HK := Lib.hid (HK.out.step ho)
        replace HR := Lib.hid ((HR.out.step ho).push hv)
        clear hv ho
        go_wp2_with fail
        (with_reducible refine (rmake_d neg e1 (RVs.at HR 0 rfl rfl) hf2 he1 he2 hr.out).mono ?_)
        rintro e w9 ⟨s9, A9, k9, c9, rfl, hc, hv, ho⟩
        replace HK := Lib.hid (HK.out.step ho)
        have HC := Lib.hid hc
        have HV := Lib.hid hv
        clear hc hv ho
        obtain ⟨q0, q1_, q2, f0, f1, f2⟩ := HK.out.c3 0 rfl
        go_wp2_with fail
        refine bodyPost_ret (v := .agg #[.bool s9, .slice A9 k9 c9, .int .i64 (r.e)]) (by simp [results, Tryz.results129, go_sem, q0, q1_, q2]) rfl ?_
        exact rdfin HV HC (by omega) (HK.out.blk 0 rfl) (noLimb3 _ _ _ _ _) HK.out.only (only_set3 _ _ _ _ _)
  · clear hcase hf3
    subst h2
    have H3 := Lib.hid h3
    clear h3
    go_wp2_with fail
    (with_reducible refine (rshr_v N hN (RVs.at HR 0 rfl rfl) hf).mono ?_)
    rintro e0 w2 ⟨A2, k2, c2, rfl, hv, -, ho⟩
    rw [H3.out] at hv
    replace HK := Lib.hid (HK.out.step ho)
    replace HR := Lib.hid ((HR.out.step ho).push hv)
    clear hv ho
    go_upto_region 6 with fail
    cases dd
    · have h3 := hm2.out.2 (by simp)
      subst h3
      go_wp2_with fail
      (with_reducible refine (rmake_d neg e1 (RVs.at HR 0 rfl rfl) hf2 he1 he2 hr.out).mono ?_)
      rintro e w9 ⟨s9, A9, k9, c9, rfl, hc, hv, ho⟩
      replace HK := Lib.hid (HK.out.step ho)
      have HC := Lib.hid hc
      have HV := Lib.hid hv
      clear hc hv ho
      obtain ⟨q0, q1_, q2, f0, f1, f2⟩ := HK.out.c3 0 rfl
      go_wp2_with fail
      refine bodyPost_ret (v := .agg #[.bool s9, .slice A9 k9 c9, .int .i64 (r.e)]) (by simp [results, Tryz.results129, go_sem, q0, q1_, q2]) rfl ?_
      exact rdfin HV HC (by omega) (HK.out.blk 0 rfl) (noLimb3 _ _ _ _ _) HK.out.only (only_set3 _ _ _ _ _)
    · have h3 := hm2.out.1 (by simp)
      have H3 := Lib.hid h3
      clear h3
      go_wp2_with fail
      (with_reducible refine (rsmall_lit 1 1 _ (Lib.hid (by unfold BB; omega)) (Lib.hid rfl)).mono ?_)
      rintro e w5 ⟨A5, k5, c5, rfl, hv, -, ho⟩
      replace HK := Lib.hid (HK.out.step ho)
      replace HR := Lib.hid ((HR.out.step ho).push hv)
      clear hv ho
      go_wp2_with fail
      (with_reducible refine (radd_v (RVs.at HR 1 rfl rfl) (RVs.at HR 0 rfl rfl) hf1 (Lib.hid (few_small (by unfold BB; omega)))).mono ?_)
      rintro e w6 ⟨A6, k6, c6, rfl, hv, -, ho⟩
      rw [H3.out] at hv
      replace HK := Lib.hid (HK.out.step ho)
      replace HR := Lib.hid ((HR.out.step ho).push hv)
      clear hv ho
      go_wp2_with fail
      (with_reducible refine (rmake_d neg e1 (RVs.at HR 0 rfl rfl) hf2 he1 he2 hr.out).mono ?_)
      rintro e w9 ⟨s9, A9, k9, c9, rfl, hc, hv, ho⟩
      replace HK := Lib.hid (HK.out.step ho)
      have HC := Lib.hid hc
      have HV := Lib.hid hv
      clear hc hv ho
      obtain ⟨q0, q1_, q2, f0, f1, f2⟩ := HK.out.c3 0 rfl
      go_wp2_with fail
      refine bodyPost_ret (v := .agg #[.bool s9, .slice A9 k9 c9, .int .i64 (r.e)]) (by simp [results, Tryz.results129, go_sem, q0, q1_, q2]) rfl ?_
      exact rdfin HV HC (by omega) (HK.out.blk 0 rfl) (noLimb3 _ _ _ _ _) HK.out.only (only_set3 _ _ _ _ _)
  · clear hcase
    subst h2
    have H3 := Lib.hid h3
    have H5 := Lib.hid h5
    clear h3 h5
    go_wp2_with fail
    (with_reducible refine (rshr_v N hN (RVs.at HR 0 rfl rfl) hf).mono ?_)
    rintro e0 w2 ⟨A2, k2, c2, rfl, hv, -, ho⟩
    rw [H3.out] at hv
    replace HK := Lib.hid (HK.out.step ho)
    replace HR := Lib.hid ((HR.out.step ho).push hv)
    clear hv ho
    go_wp2_with fail
    (with_reducible refine (rshl_v N hN (RVs.at HR 0 rfl rfl) hf1).mono ?_)
    rintro e0 w3 ⟨A3, k3, c3, rfl, hv, -, ho⟩
    replace HK := Lib.hid (HK.out.step ho)
    replace HR := Lib.hid ((HR.out.step ho).push hv)
    clear hv ho
    go_wp2_with fail
    (with_reducible refine (rcmp_v (RVs.at HR 0 rfl rfl) (RVs.at HR 2 rfl rfl) hf3 hf).mono ?_)
    rw [H5.out]
    rintro e0 w4 ⟨rfl, ho⟩
    replace HK := Lib.hid (HK.out.step ho)
    have hr2 := (HR.out.step ho)
    replace HR := Lib.hid hr2.2
    clear ho hr2
    go_upto_region 6 with fail
    cases q1
    · have h3 := hm2.out.2 (by simp)
      subst h3
      go_wp2_with fail
      (with_reducible refine (rmake_d neg e1 (RVs.at HR 0 rfl rfl) hf2 he1 he2 hr.out).mono ?_)
      rintro e w9 ⟨s9, A9, k9, c9, rfl, hc, hv, ho⟩
      replace HK := Lib.hid (HK.out.step ho)
      have HC := Lib.hid hc
      have HV := Lib.hid hv
      clear hc hv ho
      obtain ⟨q0, q1_, q2, f0, f1, f2⟩ := HK.out.c3 0 rfl
      go_wp2_with fail
      refine bodyPost_ret (v := .agg #[.bool s9, .slice A9 k9 c9, .int .i64 (r.e)]) (by simp [results, Tryz.results129, go_sem, q0, q1_, q2]) rfl ?_
      exact rdfin HV HC (by omega) (HK.out.blk 0 rfl) (noLimb3 _ _ _ _ _) HK.out.only (only_set3 _ _ _ _ _)
    · skip
      cases dd
      · have h3 := hm2.out.2 (by simp)
        subst h3
        go_wp2_with fail
        (with_reducible refine (rmake_d neg e1 (RVs.at HR 0 rfl rfl) hf2 he1 he2 hr.out).mono ?_)
        rintro e w9 ⟨s9, A9, k9, c9, rfl, hc, hv, ho⟩
        replace HK := Lib.hid (HK.out.step ho)
        have HC := Lib.hid hc
        have HV := Lib.hid hv
        clear hc hv ho
        obtain ⟨q0, q1_, q2, f0, f1, f2⟩ := HK.out.c3 0 rfl
        go_wp2_with fail
        refine bodyPost_ret (v := .agg #[.bool s9, .slice A9 k9 c9, .int .i64 (r.e)]) (by simp [results, Tryz.results129, go_sem, q0, q1_, q2]) rfl ?_
        exact rdfin HV HC (by omega) (HK.out.blk 0 rfl) (noLimb3 _ _ _ _ _) HK.out.only (only_set3 _ _ _ _ _)
      · have h3 := hm2.out.1 (by simp)
        have H3 := Lib.hid h3
        clear h3
        go_wp2_with fail
        (with_reducible refine (rsmall_lit 1 1 _ (Lib.hid (by unfold BB; omega)) (Lib.hid rfl)).mono ?_)
        rintro e w5 ⟨A5, k5, c5, rfl, hv, -, ho⟩
        replace HK := Lib.hid (HK.out.step ho)
        replace HR := Lib.hid ((HR.out.step ho).push hv)
        clear hv ho
        go_wp2_with fail
        (with_reducible refine (radd_v (RVs.at HR 1 rfl rfl) (RVs.at HR 0 rfl rfl) hf1 (Lib.hid (few_small (by unfold BB; omega)))).mono ?_)
        rintro e w6 ⟨A6, k6, c6, rfl, hv, -, ho⟩
        rw [H3.out] at hv
        replace HK := Lib.hid (HK.out.step ho)
        replace HR := Lib.hid ((HR.out.step ho).push hv)
        clear hv ho
        go_wp2_with fail
        (with_reducible refine (rmake_d neg e1 (RVs.at HR 0 rfl rfl) hf2 he1 he2 hr.out).mono ?_)
        rintro e w9 ⟨s9, A9, k9, c9, rfl, hc, hv, ho⟩
        replace HK := Lib.hid (HK.out.step ho)
        have HC := Lib.hid hc
        have HV := Lib.hid hv
        clear hc hv ho
        obtain ⟨q0, q1_, q2, f0, f1, f2⟩ := HK.out.c3 0 rfl
        go_wp2_with fail
        refine bodyPost_ret (v := .agg #[.bool s9, .slice A9 k9 c9, .int .i64 (r.e)]) (by simp [results, Tryz.results129, go_sem, q0, q1_, q2]) rfl ?_
        exact rdfin HV HC (by omega) (HK.out.blk 0 rfl) (noLimb3 _ _ _ _ _) HK.out.only (only_set3 _ _ _ _ _)
theorem cmpZ_same (m : Nat) : cmpZ m m = 0 := by unfold cmpZ; simp
theorem cmpZ_ne {a b : Nat} (h : a ≠ b) : cmpZ a b ≠ 0 := by unfold cmpZ; split <;> (try split) <;> omega
theorem rcut_d {w : World} {a : Value} {m K : Nat} (neg rest : Bool) (e dir : Int) (P : Nat) (r : Dy) (hr : cutR P (decide (0 ≤ dir)) neg m e rest = r) (ha : Hid (RV w a m)) (hm : m < 2 ^ K) (hK : K ≤ 40000000) (hP : 1 ≤ P) (hP2 : P ≤ 100000) (he1 : -1000000000000 ≤ e) (he2 : e ≤ 1000000000000) :
    Calls Tryz.prog 129 #[.bool neg, a, .int .i64 e, .bool rest, .int .i64 (P : Int), .int .i64 dir] w (RDP r w) := by
  subst hr
  have hfm : ∀ {n : Nat}, n ≤ m + 1 → Few n := fun {n} h => few_two_pow (N := K + 1) (by have : 2 ^ (K + 1) = 2 ^ K * 2 := Nat.pow_succ 2 K; omega) (by omega)
  obtain ⟨b, hb⟩ : ∃ b, bitsN m = b := ⟨_, rfl⟩
  have hbK : b ≤ K := by rw [← hb]; exact bitsN_le hm
  obtain ⟨N, hN⟩ : ∃ N, b - P = N := ⟨_, rfl⟩
  have hw1 : IntKind.i64.wrap ((b : Int) - (P : Int)) = (b : Int) - (P : Int) := wrap_i64 (by omega)
  have hw2 : IntKind.i64.wrap (e + (N : Int)) = e + (N : Int) := wrap_i64 (by omega)
  have hdn : decide (dir < 0) = !decide (0 ≤ dir) := by
    by_cases h : dir < 0
    · rw [decide_eq_true h, decide_eq_false (by omega)]; rfl
    · rw [decide_eq_false h, decide_eq_true (by omega)]; rfl
  have hdd : (neg == decide (dir < 0)) = (decide (0 ≤ dir) != neg) := by rw [hdn]; cases neg <;> cases decide (0 ≤ dir) <;> rfl
  have hle : m / 2 ^ N ≤ m := Nat.div_le_self _ _
  have hlow : m / 2 ^ N * 2 ^ N ≤ m := Nat.div_mul_le_self _ _
  have hcz : (cmpZ (m / 2 ^ N * 2 ^ N) m != 0) = decide (m % 2 ^ N ≠ 0) := by
    have hda := Nat.div_add_mod m (2 ^ N)
    rw [Nat.mul_comm] at hda
    by_cases h0 : m % 2 ^ N = 0
    · have e0 : m / 2 ^ N * 2 ^ N = m := by omega
      rw [e0, cmpZ_same, h0]; rfl
    · have e0 : cmpZ (m / 2 ^ N * 2 ^ N) m ≠ 0 := cmpZ_ne (by omega)
      rw [decide_eq_true h0]
      simpa using e0
  obtain ⟨q1, hq1⟩ : ∃ q : Bool, (rest || decide (m % 2 ^ N ≠ 0)) = q := ⟨_, rfl⟩
  have hm2 : ((q1 && (decide (0 ≤ dir) != neg)) = true → m / 2 ^ N + 1 = (if q1 && (decide (0 ≤ dir) != neg) then m / 2 ^ N + 1 else m / 2 ^ N)) ∧ ((q1 && (decide (0 ≤ dir) != neg)) = false → m / 2 ^ N = (if q1 && (decide (0 ≤ dir) != neg) then m / 2 ^ N + 1 else m / 2 ^ N)) :=
    ⟨fun h => by rw [if_pos h], fun h => by rw [if_neg (by rw [h]; decide)]⟩
  refine rcut_core neg rest q1 _ e (e + (N : Int)) _ dir (cmpZ (m / 2 ^ N * 2 ^ N) m) b P (m / 2 ^ N) _ N _ (Lib.hid hb) hw1 hdd (Lib.hid ?_) (Lib.hid hm2) (Lib.hid ?_) ha (Lib.hid (hfm (by omega))) (Lib.hid (hfm (by omega))) (Lib.hid (hfm (by split <;> omega))) (Lib.hid (hfm (by omega))) (by omega) (by omega) (by omega)
  · by_cases h0 : b ≤ P
    · have eN : N = 0 := by omega
      subst eN
      left
      rw [Nat.pow_zero, Nat.mod_one] at hq1
      exact ⟨by omega, by rw [Nat.pow_zero, Nat.div_one], by simp, by simpa using hq1.symm⟩
    · right
      cases rest
      · right
        exact ⟨by omega, by omega, rfl, hw2, rfl, rfl, by rw [hcz]; simpa using hq1⟩
      · left
        exact ⟨by omega, by omega, rfl, hw2, rfl, by simpa using hq1.symm⟩
  · unfold cutR
    rw [hb, hN, hq1]
end Go.Proofs.YtkibkmdgibemkaaGreatDoor
