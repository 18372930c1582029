/-
  NatShifts: the law's walk.
-/
import Derived.Test.YtafipkighpjknaaDoorGNV
import Derived.Test.YtafipkighpjknaaDoorGRefS
import Derived.Test.YtafipkighpjknaaDoorPowers
import Derived.Test.YtafipkighpjknaaDoorRefJ
import Derived.Test.YtafipkighpjknaaDoorRefT
import Derived.Test.YtafipkighpjknaaDoorGRd
import Derived.Test.YtafipkighpjknaaDoorREnv
import Derived.Test.YtafipkighpjknaaDoorLent
namespace Go.Proofs.YtafipkighpjknaaDoor
open Go.RowKit

theorem few40 {m : Nat} (h : Lim m 40) (z : Int) : Few (shlN m z) := by
  unfold shlN
  by_cases h1 : z > 16777216 ∨ z < -16777216
  · rw [if_pos h1]; exact few_small BB_pos
  · rw [if_neg h1]
    by_cases h2 : z < 0
    · rw [if_pos h2]; exact (h.few (by omega)).le (Nat.div_le_self _ _)
    · rw [if_neg h2]
      obtain ⟨E, hE⟩ : ∃ E : Nat, E = 262145 := ⟨_, rfl⟩
      have h3 : 2 ^ z.toNat ≤ BB ^ E := by
        rw [BB_pow, ← Nat.pow_mul]
        exact Nat.pow_le_pow_right (by omega) (by omega)
      have h4 : m * 2 ^ z.toNat < BB ^ 40 * BB ^ E := Nat.lt_of_lt_of_le (Nat.mul_lt_mul_of_pos_right h (Nat.pow_pos (by omega))) (Nat.mul_le_mul_left _ h3)
      rw [← Nat.pow_add] at h4
      exact Nat.lt_of_lt_of_le h4 (Nat.pow_le_pow_right BB_pos (by rw [MX_val]; omega))

set_option maxHeartbeats 800000 in
set_option maxRecDepth 100000 in
theorem shifts_out (A : Option Addr) (p c : Nat) (n : Int) (w : World) (htab : Hid (Tab w)) (h : lightB [⟨A, p, c⟩] = false) :
    Calls Tryd.prog 3 #[.slice A p c, .int .i64 n] w fun e w' => e = .returned (.bool true) ∧ Only [] w w' := by
  have HL := Lib.hid h
  clear h
  go_enter Tryd.func3, Tryd.ntmps3
  go_wp2_with fail
  refine (light_v [⟨A, p, c⟩] 1 (Lib.hid rfl) (by omega)).mono ?_
  rintro e w1 ⟨rfl, ho1⟩
  rw [HL.out]
  have HO1 := Lib.hid ho1
  clear ho1
  go_wp2_with fail
  refine (alive1_any w1 (Lib.hid (htab.out.only HO1.out))).mono ?_
  rintro e w2 ⟨rfl, ho2⟩
  have HO2 := Lib.hid (HO1.out.nil_trans ho2)
  clear ho2
  go_wp2_with fail
  go_ret
  exact ⟨rfl, HO2.out⟩
set_option maxHeartbeats 12800000 in
set_option maxRecDepth 100000 in
theorem shifts_a (A : Option Addr) (p c N : Nat) (xs : List Nat) (k : Nat) (w : World) (htab : Hid (Tab w)) (htab6 : Hid (Tab6 w)) (HL : Hid (lightB [⟨A, p, c⟩] = true)) (hr : Hid (LRead w A xs)) (hx : Hid (Limb xs)) (hp : Hid (p = xs.length)) (hpc : p ≤ c) (hp40 : p ≤ 40) (hv : Hid (val xs = N)) (hm : Hid (Lim N 40)) (hk : (k : Int) ≤ 5000) :
    Calls Tryd.prog 3 #[.slice A p c, .int .i64 (k : Int)] w fun e w' => e = .returned (.bool true) ∧ Only [] w w' := by
  have ha : Hid (NV w (.slice A p c) N) := by
    have h := NV.mk (w := w) (c := c) ⟨hr.out, hx.out, by have := hp.out; omega⟩ (by have := hp.out; omega) (by have := hp.out; omega)
    rw [hv.out, ← hp.out] at h
    exact h
  have HFm : Hid (Few N) := hm.out.few (by omega)
  have HFU := Lib.hid (few40 hm.out (k : Int))
  have HFD := Lib.hid (few40 hm.out (-(k : Int)))
  have HUe : Hid (shlN N (k : Int) = N * 2 ^ k) := shlN_up _ _ (by omega)
  have HDe : Hid (shlN N (-(k : Int)) = N / 2 ^ k) := shlN_down _ _ (by omega)
  have HFL : Hid (Few (N * 2 ^ k)) := HUe.out ▸ HFU.out
  have HFRi : Hid (Few (N / 2 ^ k)) := HDe.out ▸ HFD.out
  have HRt : Hid (rootN N * rootN N ≤ N) := (rootN_is N).1
  have HFroot : Hid (Few (rootN N)) := HFm.out.le (Nat.le_trans (Nat.le_mul_self _) HRt.out)
  have HLe := HRt
  have HFrest : Hid (Few (N - rootN N * rootN N)) := HFm.out.le (Nat.sub_le _ _)
  have HDl : Hid ((Lib.decDigits N).length ≤ 1000000) := Nat.le_trans (dec_len hm.out (by omega)) (by omega)
  have F0 : Hid (Few 0) := few_small BB_pos
  go_enter Tryd.func3, Tryd.ntmps3
  go_wp2_with fail
  refine (light_v [⟨A, p, c⟩] 1 (Lib.hid rfl) (by omega)).mono ?_
  rintro e w1 ⟨rfl, ho1⟩
  rw [HL.out]
  have HO1 := Lib.hid ho1
  clear ho1
  go_wp2_with fail
  refine (alive1_any w1 (Lib.hid (htab.out.only HO1.out))).mono ?_
  rintro e w2 ⟨rfl, ho2⟩
  have HO2 := Lib.hid (HO1.out.nil_trans ho2)
  clear ho2
  go_wp2_with fail
  refine (from_v (Lib.hid (ha.out.only HO2.out))).mono ?_
  rintro e w3 ⟨B1, l1, d1, rfl, hv, -, ho⟩
  have HX := Lib.hid hv
  have HO3 := Lib.hid (HO2.out.nil_trans ho)
  clear hv ho
  go_wp2_with fail
  refine (lent_any A p c xs w3 (Lib.hid (hr.out.only HO3.out)) hp (by omega)).mono ?_
  rintro e wl ⟨gL, cL, rfl, hL, -, ho⟩
  have HL0 := Lib.hid hL
  have HNa := Lib.hid (hp.out ▸ (hL.nv hx.out (by have := hp.out; omega)) : NV wl (.slice (some ⟨gL, 0, none⟩) p cL) (val xs))
  have HOl := Lib.hid (HO3.out.nil_trans ho)
  have HR := Lib.hid ((RVs.start wl).push (HX.out.only ho))
  have HE := Lib.hid ((Env.start wl).push HNa.out)
  have HB0 : Hid (LRead wl A xs) := hr.out.only HOl.out
  clear hL ho HX HNa
  rw [hv.out] at HE
  go_wp2_with fail
  have hx0 := Env.at HE 0 rfl rfl
  (with_reducible refine (shl_v (k : Int) hx0 HFU).mono ?_)
  clear hx0
  rintro e w11 ⟨A1, k1, c1, rfl, hr, hv, ho⟩
  replace HE := Lib.hid ((HE.out.step ho).push hv)
  replace HR := Lib.hid (HR.out.step ho)
  have HRup := Lib.hid hr
  clear hv ho hr
  go_wp2_with fail
  have hx0 := Env.at HE 1 rfl rfl
  (with_reducible refine (shr_v (k : Int) hx0 HFD).mono ?_)
  clear hx0
  rintro e w12 ⟨A2, k2, c2, rfl, hr, hv, ho⟩
  replace HE := Lib.hid ((HE.out.step ho).push hv)
  replace HR := Lib.hid (HR.out.step ho)
  have HRdown := Lib.hid hr
  clear hv ho hr
  go_wp2_with fail
  have hx0 := Env.at HE 2 rfl rfl
  (with_reducible refine (sqrt_v hx0).mono ?_)
  clear hx0
  rintro e w13 ⟨A3, k3, c3, A4, k4, c4, _, _, rfl, rfl, rfl, hr1, hr2, hv1, hv2, -, ho⟩
  replace HE := Lib.hid (((HE.out.step ho).push hv2).push hv1)
  replace HR := Lib.hid (HR.out.step ho)
  have HRr := Lib.hid hr1
  have HRs := Lib.hid hr2
  clear hv1 hv2 ho hr1 hr2
  go_wp2_with fail
  have hy0 := RVs.at HR 0 rfl rfl
  (with_reducible refine (rsqrt_v hy0 HFm).mono ?_)
  clear hy0
  rintro e w14 ⟨B1, l1, d1, rfl, hv, -, ho⟩
  replace HE := Lib.hid (HE.out.step ho)
  replace HR := Lib.hid (HR.out.step ho)
  replace HR := Lib.hid (HR.out.push hv)
  clear hv ho
  go_wp2_with fail
  have hy0 := RVs.at HR 1 rfl rfl
  (with_reducible refine (rshl_v k (by omega) hy0 HFm).mono ?_)
  clear hy0
  rintro e w15 ⟨B2, l2, d2, rfl, hv, -, ho⟩
  replace HE := Lib.hid (HE.out.step ho)
  replace HR := Lib.hid (HR.out.step ho)
  replace HR := Lib.hid (HR.out.push hv)
  clear hv ho
  go_wp2_with fail
  have hy0 := RVs.at HR 2 rfl rfl
  (with_reducible refine (rshr_v k (by omega) hy0 HFm).mono ?_)
  clear hy0
  rintro e w16 ⟨B3, l3, d3, rfl, hv, -, ho⟩
  replace HE := Lib.hid (HE.out.step ho)
  replace HR := Lib.hid (HR.out.step ho)
  replace HR := Lib.hid (HR.out.push hv)
  clear hv ho
  go_wp2_with fail
  rw [HUe.out, HDe.out] at HE
  rw [HUe.out] at HRup
  rw [HDe.out] at HRdown
  have HKu := Lib.hid HRup.out.len
  have HKd := Lib.hid HRdown.out.len
  have HKr := Lib.hid HRr.out.len
  have HKs := Lib.hid HRs.out.len
  have hx0 := Env.at HE 4 rfl rfl
  (with_reducible refine (text_v hx0 (Lib.hid (htab.out.only (HOl.out.nil_trans HE.out.only)))).mono ?_)
  clear hx0
  rintro e w17 ⟨rfl, ho⟩
  replace HE := Lib.hid (HE.out.step ho)
  replace HR := Lib.hid (HR.out.step ho)
  clear ho
  go_wp2_with fail
  (with_reducible refine (parse_dec_v N 40 hm (by omega)).mono ?_)
  rintro e w18 ⟨A5, k5, c5, rfl, hrr, hv, ho⟩
  replace HE := Lib.hid ((HE.out.step ho).push hv)
  replace HR := Lib.hid (HR.out.step ho)
  have HKt := Lib.hid hrr.len
  clear hv ho hrr
  go_wp2_with fail
  have hx0 := Env.at HE 4 rfl rfl
  have hy0 := RVs.at HR 1 rfl rfl
  (with_reducible refine (is_nv hx0 HKu hy0 HFL).mono ?_)
  clear hx0 hy0
  rintro e w19 ⟨rfl, ho⟩
  rw [decide_eq_true rfl]
  replace HE := Lib.hid (HE.out.step ho)
  replace HR := Lib.hid (HR.out.step ho)
  clear ho
  go_wp2_with fail
  have hx0 := Env.at HE 3 rfl rfl
  have hy0 := RVs.at HR 0 rfl rfl
  (with_reducible refine (is_nv hx0 HKd hy0 HFRi).mono ?_)
  clear hx0 hy0
  rintro e w20 ⟨rfl, ho⟩
  rw [decide_eq_true rfl]
  replace HE := Lib.hid (HE.out.step ho)
  replace HR := Lib.hid (HR.out.step ho)
  clear ho
  go_wp2_with fail
  have hx0 := Env.at HE 1 rfl rfl
  have hy0 := RVs.at HR 2 rfl rfl
  (with_reducible refine (is_nv hx0 HKr hy0 HFroot).mono ?_)
  clear hx0 hy0
  rintro e w21 ⟨rfl, ho⟩
  rw [decide_eq_true rfl]
  replace HE := Lib.hid (HE.out.step ho)
  replace HR := Lib.hid (HR.out.step ho)
  clear ho
  go_wp2_with fail
  have hy0 := RVs.at HR 2 rfl rfl
  have hy1 := RVs.at HR 2 rfl rfl
  (with_reducible refine (rmul_v hy0 hy1 HFroot HFroot).mono ?_)
  clear hy0 hy1
  rintro e w22 ⟨B4, l4, d4, rfl, hv, -, ho⟩
  replace HE := Lib.hid (HE.out.step ho)
  replace HR := Lib.hid (HR.out.step ho)
  replace HR := Lib.hid (HR.out.push hv)
  clear hv ho
  go_wp2_with fail
  have hy0 := RVs.at HR 4 rfl rfl
  have hy1 := RVs.at HR 0 rfl rfl
  (with_reducible refine (rsub_v hy0 hy1 HFm HLe).mono ?_)
  clear hy0 hy1
  rintro e w23 ⟨B5, l5, d5, rfl, hv, -, ho⟩
  replace HE := Lib.hid (HE.out.step ho)
  replace HR := Lib.hid (HR.out.step ho)
  replace HR := Lib.hid (HR.out.push hv)
  clear hv ho
  go_wp2_with fail
  have hx0 := Env.at HE 2 rfl rfl
  have hy0 := RVs.at HR 0 rfl rfl
  (with_reducible refine (is_nv hx0 HKs hy0 HFrest).mono ?_)
  clear hx0 hy0
  rintro e w24 ⟨rfl, ho⟩
  rw [decide_eq_true rfl]
  replace HE := Lib.hid (HE.out.step ho)
  replace HR := Lib.hid (HR.out.step ho)
  clear ho
  go_wp2_with fail
  have hx0 := Env.at HE 5 rfl rfl
  (with_reducible refine (bits_v hx0).mono ?_)
  clear hx0
  rintro e w' ⟨rfl, rfl⟩
  go_wp2_with fail
  have hy0 := RVs.at HR 5 rfl rfl
  (with_reducible refine (rbits_v hy0 HFm).mono ?_)
  clear hy0
  rintro e w' ⟨rfl, rfl⟩
  generalize (bitsN N : Int) = bl
  go_wp2_with fail
  have hx0 := Env.at HE 5 rfl rfl
  (with_reducible refine (low_v hx0 (Lib.hid (htab6.out.only (HOl.out.nil_trans HE.out.only)))).mono ?_)
  clear hx0
  rintro e w' ⟨rfl, rfl⟩
  go_wp2_with fail
  have hy0 := RVs.at HR 5 rfl rfl
  (with_reducible refine (rlow_v hy0 HFm).mono ?_)
  clear hy0
  rintro e w' ⟨rfl, rfl⟩
  generalize (lowN N : Int) = lw
  go_wp2_with fail
  have hx0 := Env.at HE 5 rfl rfl
  (with_reducible refine (text_v hx0 (Lib.hid (htab.out.only (HOl.out.nil_trans HE.out.only)))).mono ?_)
  clear hx0
  rintro e w25 ⟨rfl, ho⟩
  replace HE := Lib.hid (HE.out.step ho)
  replace HR := Lib.hid (HR.out.step ho)
  clear ho
  go_wp2_with fail
  have hy0 := RVs.at HR 5 rfl rfl
  (with_reducible refine (rtext_v hy0 HFm HDl).mono ?_)
  clear hy0
  rintro e w26 ⟨rfl, ho⟩
  replace HE := Lib.hid (HE.out.step ho)
  replace HR := Lib.hid (HR.out.step ho)
  clear ho
  generalize (⟨(Lib.decDigits N).toArray⟩ : ByteArray) = tx
  go_wp2_with fail
  have hx0 := Env.at HE 0 rfl rfl
  have hy0 := RVs.at HR 5 rfl rfl
  (with_reducible refine (is_nv hx0 HKt hy0 HFm).mono ?_)
  clear hx0 hy0
  rintro e w27 ⟨rfl, ho⟩
  rw [decide_eq_true rfl]
  replace HE := Lib.hid (HE.out.step ho)
  replace HR := Lib.hid (HR.out.step ho)
  clear ho
  go_wp2_with fail
  (with_reducible refine (stays_any gL p cL c A xs _ (Lib.hid (HL0.out.only HE.out.only (by simp))) (Lib.hid (HB0.out.only HE.out.only)) hp (by omega)).mono ?_)
  rintro e w28 ⟨rfl, ho⟩
  replace HE := Lib.hid (HE.out.step ho)
  replace HR := Lib.hid (HR.out.step ho)
  clear ho
  go_wp2_with fail
  go_ret
  exact ⟨rfl, HOl.out.nil_trans HE.out.only⟩
set_option maxHeartbeats 12800000 in
set_option maxRecDepth 100000 in
theorem shifts_b (A : Option Addr) (p c N : Nat) (xs : List Nat) (k : Nat) (w : World) (htab : Hid (Tab w)) (htab6 : Hid (Tab6 w)) (HL : Hid (lightB [⟨A, p, c⟩] = true)) (hr : Hid (LRead w A xs)) (hx : Hid (Limb xs)) (hp : Hid (p = xs.length)) (hpc : p ≤ c) (hp40 : p ≤ 40) (hv : Hid (val xs = N)) (hm : Hid (Lim N 40)) (hk : (k : Int) ≤ 5000) (hk0 : 0 < k) :
    Calls Tryd.prog 3 #[.slice A p c, .int .i64 (-(k : Int))] w fun e w' => e = .returned (.bool true) ∧ Only [] w w' := by
  have ha : Hid (NV w (.slice A p c) N) := by
    have h := NV.mk (w := w) (c := c) ⟨hr.out, hx.out, by have := hp.out; omega⟩ (by have := hp.out; omega) (by have := hp.out; omega)
    rw [hv.out, ← hp.out] at h
    exact h
  have HFm : Hid (Few N) := hm.out.few (by omega)
  have HFU := Lib.hid (few40 hm.out (-(k : Int)))
  have HFD := Lib.hid (few40 hm.out (-(-(k : Int))))
  have HUe : Hid (shlN N (-(k : Int)) = N / 2 ^ k) := shlN_down _ _ (by omega)
  have HDe : Hid (shlN N (-(-(k : Int))) = N * 2 ^ k) := by show _ = _; rw [Int.neg_neg]; exact shlN_up _ _ (by omega)
  have HFL : Hid (Few (N / 2 ^ k)) := HUe.out ▸ HFU.out
  have HFRi : Hid (Few (N * 2 ^ k)) := HDe.out ▸ HFD.out
  have HRt : Hid (rootN N * rootN N ≤ N) := (rootN_is N).1
  have HFroot : Hid (Few (rootN N)) := HFm.out.le (Nat.le_trans (Nat.le_mul_self _) HRt.out)
  have HLe := HRt
  have HFrest : Hid (Few (N - rootN N * rootN N)) := HFm.out.le (Nat.sub_le _ _)
  have HDl : Hid ((Lib.decDigits N).length ≤ 1000000) := Nat.le_trans (dec_len hm.out (by omega)) (by omega)
  have F0 : Hid (Few 0) := few_small BB_pos
  have b1 : ¬ (0 : Int) ≤ -(k : Int) := by omega
  have b2 : -(k : Int) < 0 := by omega
  have b3 : (-5000 : Int) ≤ -(k : Int) := by omega
  go_enter Tryd.func3, Tryd.ntmps3
  go_wp2_with fail
  refine (light_v [⟨A, p, c⟩] 1 (Lib.hid rfl) (by omega)).mono ?_
  rintro e w1 ⟨rfl, ho1⟩
  rw [HL.out]
  have HO1 := Lib.hid ho1
  clear ho1
  go_wp2_with fail
  refine (alive1_any w1 (Lib.hid (htab.out.only HO1.out))).mono ?_
  rintro e w2 ⟨rfl, ho2⟩
  have HO2 := Lib.hid (HO1.out.nil_trans ho2)
  clear ho2
  go_wp2_with fail
  refine (from_v (Lib.hid (ha.out.only HO2.out))).mono ?_
  rintro e w3 ⟨B1, l1, d1, rfl, hv, -, ho⟩
  have HX := Lib.hid hv
  have HO3 := Lib.hid (HO2.out.nil_trans ho)
  clear hv ho
  go_wp2_with fail
  refine (lent_any A p c xs w3 (Lib.hid (hr.out.only HO3.out)) hp (by omega)).mono ?_
  rintro e wl ⟨gL, cL, rfl, hL, -, ho⟩
  have HL0 := Lib.hid hL
  have HNa := Lib.hid (hp.out ▸ (hL.nv hx.out (by have := hp.out; omega)) : NV wl (.slice (some ⟨gL, 0, none⟩) p cL) (val xs))
  have HOl := Lib.hid (HO3.out.nil_trans ho)
  have HR := Lib.hid ((RVs.start wl).push (HX.out.only ho))
  have HE := Lib.hid ((Env.start wl).push HNa.out)
  have HB0 : Hid (LRead wl A xs) := hr.out.only HOl.out
  clear hL ho HX HNa
  rw [hv.out] at HE
  go_wp2_with fail
  have hx0 := Env.at HE 0 rfl rfl
  (with_reducible refine (shl_v (-(k : Int)) hx0 HFU).mono ?_)
  clear hx0
  rintro e w11 ⟨A1, k1, c1, rfl, hr, hv, ho⟩
  replace HE := Lib.hid ((HE.out.step ho).push hv)
  replace HR := Lib.hid (HR.out.step ho)
  have HRup := Lib.hid hr
  clear hv ho hr
  go_wp2_with fail
  have hx0 := Env.at HE 1 rfl rfl
  (with_reducible refine (shr_v (-(k : Int)) hx0 HFD).mono ?_)
  clear hx0
  rintro e w12 ⟨A2, k2, c2, rfl, hr, hv, ho⟩
  replace HE := Lib.hid ((HE.out.step ho).push hv)
  replace HR := Lib.hid (HR.out.step ho)
  have HRdown := Lib.hid hr
  clear hv ho hr
  go_wp2_with fail
  have hx0 := Env.at HE 2 rfl rfl
  (with_reducible refine (sqrt_v hx0).mono ?_)
  clear hx0
  rintro e w13 ⟨A3, k3, c3, A4, k4, c4, _, _, rfl, rfl, rfl, hr1, hr2, hv1, hv2, -, ho⟩
  replace HE := Lib.hid (((HE.out.step ho).push hv2).push hv1)
  replace HR := Lib.hid (HR.out.step ho)
  have HRr := Lib.hid hr1
  have HRs := Lib.hid hr2
  clear hv1 hv2 ho hr1 hr2
  go_wp2_with fail
  have hy0 := RVs.at HR 0 rfl rfl
  (with_reducible refine (rsqrt_v hy0 HFm).mono ?_)
  clear hy0
  rintro e w14 ⟨B1, l1, d1, rfl, hv, -, ho⟩
  replace HE := Lib.hid (HE.out.step ho)
  replace HR := Lib.hid (HR.out.step ho)
  replace HR := Lib.hid (HR.out.push hv)
  clear hv ho
  go_wp2_with fail
  have hy0 := RVs.at HR 1 rfl rfl
  (with_reducible refine (rshr_v k (by omega) hy0 HFm).mono ?_)
  clear hy0
  rintro e w15 ⟨B2, l2, d2, rfl, hv, -, ho⟩
  replace HE := Lib.hid (HE.out.step ho)
  replace HR := Lib.hid (HR.out.step ho)
  replace HR := Lib.hid (HR.out.push hv)
  clear hv ho
  go_wp2_with fail
  have hy0 := RVs.at HR 2 rfl rfl
  (with_reducible refine (rshl_v k (by omega) hy0 HFm).mono ?_)
  clear hy0
  rintro e w16 ⟨B3, l3, d3, rfl, hv, -, ho⟩
  replace HE := Lib.hid (HE.out.step ho)
  replace HR := Lib.hid (HR.out.step ho)
  replace HR := Lib.hid (HR.out.push hv)
  clear hv ho
  go_wp2_with fail
  rw [HUe.out, HDe.out] at HE
  rw [HUe.out] at HRup
  rw [HDe.out] at HRdown
  have HKu := Lib.hid HRup.out.len
  have HKd := Lib.hid HRdown.out.len
  have HKr := Lib.hid HRr.out.len
  have HKs := Lib.hid HRs.out.len
  have hx0 := Env.at HE 4 rfl rfl
  (with_reducible refine (text_v hx0 (Lib.hid (htab.out.only (HOl.out.nil_trans HE.out.only)))).mono ?_)
  clear hx0
  rintro e w17 ⟨rfl, ho⟩
  replace HE := Lib.hid (HE.out.step ho)
  replace HR := Lib.hid (HR.out.step ho)
  clear ho
  go_wp2_with fail
  (with_reducible refine (parse_dec_v N 40 hm (by omega)).mono ?_)
  rintro e w18 ⟨A5, k5, c5, rfl, hrr, hv, ho⟩
  replace HE := Lib.hid ((HE.out.step ho).push hv)
  replace HR := Lib.hid (HR.out.step ho)
  have HKt := Lib.hid hrr.len
  clear hv ho hrr
  go_wp2_with fail
  have hx0 := Env.at HE 4 rfl rfl
  have hy0 := RVs.at HR 1 rfl rfl
  (with_reducible refine (is_nv hx0 HKu hy0 HFL).mono ?_)
  clear hx0 hy0
  rintro e w19 ⟨rfl, ho⟩
  rw [decide_eq_true rfl]
  replace HE := Lib.hid (HE.out.step ho)
  replace HR := Lib.hid (HR.out.step ho)
  clear ho
  go_wp2_with fail
  have hx0 := Env.at HE 3 rfl rfl
  have hy0 := RVs.at HR 0 rfl rfl
  (with_reducible refine (is_nv hx0 HKd hy0 HFRi).mono ?_)
  clear hx0 hy0
  rintro e w20 ⟨rfl, ho⟩
  rw [decide_eq_true rfl]
  replace HE := Lib.hid (HE.out.step ho)
  replace HR := Lib.hid (HR.out.step ho)
  clear ho
  go_wp2_with fail
  have hx0 := Env.at HE 1 rfl rfl
  have hy0 := RVs.at HR 2 rfl rfl
  (with_reducible refine (is_nv hx0 HKr hy0 HFroot).mono ?_)
  clear hx0 hy0
  rintro e w21 ⟨rfl, ho⟩
  rw [decide_eq_true rfl]
  replace HE := Lib.hid (HE.out.step ho)
  replace HR := Lib.hid (HR.out.step ho)
  clear ho
  go_wp2_with fail
  have hy0 := RVs.at HR 2 rfl rfl
  have hy1 := RVs.at HR 2 rfl rfl
  (with_reducible refine (rmul_v hy0 hy1 HFroot HFroot).mono ?_)
  clear hy0 hy1
  rintro e w22 ⟨B4, l4, d4, rfl, hv, -, ho⟩
  replace HE := Lib.hid (HE.out.step ho)
  replace HR := Lib.hid (HR.out.step ho)
  replace HR := Lib.hid (HR.out.push hv)
  clear hv ho
  go_wp2_with fail
  have hy0 := RVs.at HR 4 rfl rfl
  have hy1 := RVs.at HR 0 rfl rfl
  (with_reducible refine (rsub_v hy0 hy1 HFm HLe).mono ?_)
  clear hy0 hy1
  rintro e w23 ⟨B5, l5, d5, rfl, hv, -, ho⟩
  replace HE := Lib.hid (HE.out.step ho)
  replace HR := Lib.hid (HR.out.step ho)
  replace HR := Lib.hid (HR.out.push hv)
  clear hv ho
  go_wp2_with fail
  have hx0 := Env.at HE 2 rfl rfl
  have hy0 := RVs.at HR 0 rfl rfl
  (with_reducible refine (is_nv hx0 HKs hy0 HFrest).mono ?_)
  clear hx0 hy0
  rintro e w24 ⟨rfl, ho⟩
  rw [decide_eq_true rfl]
  replace HE := Lib.hid (HE.out.step ho)
  replace HR := Lib.hid (HR.out.step ho)
  clear ho
  go_wp2_with fail
  have hx0 := Env.at HE 5 rfl rfl
  (with_reducible refine (bits_v hx0).mono ?_)
  clear hx0
  rintro e w' ⟨rfl, rfl⟩
  go_wp2_with fail
  have hy0 := RVs.at HR 5 rfl rfl
  (with_reducible refine (rbits_v hy0 HFm).mono ?_)
  clear hy0
  rintro e w' ⟨rfl, rfl⟩
  generalize (bitsN N : Int) = bl
  go_wp2_with fail
  have hx0 := Env.at HE 5 rfl rfl
  (with_reducible refine (low_v hx0 (Lib.hid (htab6.out.only (HOl.out.nil_trans HE.out.only)))).mono ?_)
  clear hx0
  rintro e w' ⟨rfl, rfl⟩
  go_wp2_with fail
  have hy0 := RVs.at HR 5 rfl rfl
  (with_reducible refine (rlow_v hy0 HFm).mono ?_)
  clear hy0
  rintro e w' ⟨rfl, rfl⟩
  generalize (lowN N : Int) = lw
  go_wp2_with fail
  have hx0 := Env.at HE 5 rfl rfl
  (with_reducible refine (text_v hx0 (Lib.hid (htab.out.only (HOl.out.nil_trans HE.out.only)))).mono ?_)
  clear hx0
  rintro e w25 ⟨rfl, ho⟩
  replace HE := Lib.hid (HE.out.step ho)
  replace HR := Lib.hid (HR.out.step ho)
  clear ho
  go_wp2_with fail
  have hy0 := RVs.at HR 5 rfl rfl
  (with_reducible refine (rtext_v hy0 HFm HDl).mono ?_)
  clear hy0
  rintro e w26 ⟨rfl, ho⟩
  replace HE := Lib.hid (HE.out.step ho)
  replace HR := Lib.hid (HR.out.step ho)
  clear ho
  generalize (⟨(Lib.decDigits N).toArray⟩ : ByteArray) = tx
  go_wp2_with fail
  have hx0 := Env.at HE 0 rfl rfl
  have hy0 := RVs.at HR 5 rfl rfl
  (with_reducible refine (is_nv hx0 HKt hy0 HFm).mono ?_)
  clear hx0 hy0
  rintro e w27 ⟨rfl, ho⟩
  rw [decide_eq_true rfl]
  replace HE := Lib.hid (HE.out.step ho)
  replace HR := Lib.hid (HR.out.step ho)
  clear ho
  go_wp2_with fail
  (with_reducible refine (stays_any gL p cL c A xs _ (Lib.hid (HL0.out.only HE.out.only (by simp))) (Lib.hid (HB0.out.only HE.out.only)) hp (by omega)).mono ?_)
  rintro e w28 ⟨rfl, ho⟩
  replace HE := Lib.hid (HE.out.step ho)
  replace HR := Lib.hid (HR.out.step ho)
  clear ho
  go_wp2_with fail
  go_ret
  exact ⟨rfl, HOl.out.nil_trans HE.out.only⟩
set_option maxHeartbeats 12800000 in
set_option maxRecDepth 100000 in
theorem shifts_d (A : Option Addr) (p c N : Nat) (xs : List Nat) (z : Int) (w : World) (htab : Hid (Tab w)) (htab6 : Hid (Tab6 w)) (HL : Hid (lightB [⟨A, p, c⟩] = true)) (hr : Hid (LRead w A xs)) (hx : Hid (Limb xs)) (hp : Hid (p = xs.length)) (hpc : p ≤ c) (hp40 : p ≤ 40) (hv : Hid (val xs = N)) (hm : Hid (Lim N 40)) (hz : 16777216 < z) :
    Calls Tryd.prog 3 #[.slice A p c, .int .i64 z] w fun e w' => e = .returned (.bool true) ∧ Only [] w w' := by
  have ha : Hid (NV w (.slice A p c) N) := by
    have h := NV.mk (w := w) (c := c) ⟨hr.out, hx.out, by have := hp.out; omega⟩ (by have := hp.out; omega) (by have := hp.out; omega)
    rw [hv.out, ← hp.out] at h
    exact h
  have HFm : Hid (Few N) := hm.out.few (by omega)
  have HFU := Lib.hid (few40 hm.out z)
  have HFD := Lib.hid (few40 hm.out (-z))
  have HUe : Hid (shlN N z = 0) := shlN_far _ _ (by omega)
  have HDe : Hid (shlN N (-z) = 0) := shlN_far _ _ (by omega)
  have HRt : Hid (rootN N * rootN N ≤ N) := (rootN_is N).1
  have HFroot : Hid (Few (rootN N)) := HFm.out.le (Nat.le_trans (Nat.le_mul_self _) HRt.out)
  have HLe := HRt
  have HFrest : Hid (Few (N - rootN N * rootN N)) := HFm.out.le (Nat.sub_le _ _)
  have HDl : Hid ((Lib.decDigits N).length ≤ 1000000) := Nat.le_trans (dec_len hm.out (by omega)) (by omega)
  have F0 : Hid (Few 0) := few_small BB_pos
  have b1 : (0 : Int) ≤ z := by omega
  have b2 : ¬ z ≤ 5000 := by omega
  have b3 : ¬ z < 0 := by omega
  have b4 : (-16777216 : Int) < z := by omega
  have b5 : ¬ z ≤ 16777216 := by omega
  have b6 : (z == -16777216) = false := by rw [beq_eq_false_iff_ne]; omega
  go_enter Tryd.func3, Tryd.ntmps3
  go_wp2_with fail
  refine (light_v [⟨A, p, c⟩] 1 (Lib.hid rfl) (by omega)).mono ?_
  rintro e w1 ⟨rfl, ho1⟩
  rw [HL.out]
  have HO1 := Lib.hid ho1
  clear ho1
  go_wp2_with fail
  refine (alive1_any w1 (Lib.hid (htab.out.only HO1.out))).mono ?_
  rintro e w2 ⟨rfl, ho2⟩
  have HO2 := Lib.hid (HO1.out.nil_trans ho2)
  clear ho2
  go_wp2_with fail
  refine (from_v (Lib.hid (ha.out.only HO2.out))).mono ?_
  rintro e w3 ⟨B1, l1, d1, rfl, hv, -, ho⟩
  have HX := Lib.hid hv
  have HO3 := Lib.hid (HO2.out.nil_trans ho)
  clear hv ho
  go_wp2_with fail
  refine (lent_any A p c xs w3 (Lib.hid (hr.out.only HO3.out)) hp (by omega)).mono ?_
  rintro e wl ⟨gL, cL, rfl, hL, -, ho⟩
  have HL0 := Lib.hid hL
  have HNa := Lib.hid (hp.out ▸ (hL.nv hx.out (by have := hp.out; omega)) : NV wl (.slice (some ⟨gL, 0, none⟩) p cL) (val xs))
  have HOl := Lib.hid (HO3.out.nil_trans ho)
  have HR := Lib.hid ((RVs.start wl).push (HX.out.only ho))
  have HE := Lib.hid ((Env.start wl).push HNa.out)
  have HB0 : Hid (LRead wl A xs) := hr.out.only HOl.out
  clear hL ho HX HNa
  rw [hv.out] at HE
  go_wp2_with fail
  have hx0 := Env.at HE 0 rfl rfl
  (with_reducible refine (shl_v z hx0 HFU).mono ?_)
  clear hx0
  rintro e w11 ⟨A1, k1, c1, rfl, hr, hv, ho⟩
  replace HE := Lib.hid ((HE.out.step ho).push hv)
  replace HR := Lib.hid (HR.out.step ho)
  have HRup := Lib.hid hr
  clear hv ho hr
  go_wp2_with fail
  have hx0 := Env.at HE 1 rfl rfl
  (with_reducible refine (shr_v z hx0 HFD).mono ?_)
  clear hx0
  rintro e w12 ⟨A2, k2, c2, rfl, hr, hv, ho⟩
  replace HE := Lib.hid ((HE.out.step ho).push hv)
  replace HR := Lib.hid (HR.out.step ho)
  have HRdown := Lib.hid hr
  clear hv ho hr
  go_wp2_with fail
  have hx0 := Env.at HE 2 rfl rfl
  (with_reducible refine (sqrt_v hx0).mono ?_)
  clear hx0
  rintro e w13 ⟨A3, k3, c3, A4, k4, c4, _, _, rfl, rfl, rfl, hr1, hr2, hv1, hv2, -, ho⟩
  replace HE := Lib.hid (((HE.out.step ho).push hv2).push hv1)
  replace HR := Lib.hid (HR.out.step ho)
  have HRr := Lib.hid hr1
  have HRs := Lib.hid hr2
  clear hv1 hv2 ho hr1 hr2
  go_wp2_with fail
  have hy0 := RVs.at HR 0 rfl rfl
  (with_reducible refine (rsqrt_v hy0 HFm).mono ?_)
  clear hy0
  rintro e w14 ⟨B1, l1, d1, rfl, hv, -, ho⟩
  replace HE := Lib.hid (HE.out.step ho)
  replace HR := Lib.hid (HR.out.step ho)
  replace HR := Lib.hid (HR.out.push hv)
  clear hv ho
  go_wp2_with fail
  rw [HUe.out, HDe.out] at HE
  rw [HUe.out] at HRup
  rw [HDe.out] at HRdown
  replace HR := Lib.hid (HR.out.push (RV.nil _))
  have HKu := Lib.hid HRup.out.len
  have HKd := Lib.hid HRdown.out.len
  have HKr := Lib.hid HRr.out.len
  have HKs := Lib.hid HRs.out.len
  have hx0 := Env.at HE 4 rfl rfl
  (with_reducible refine (text_v hx0 (Lib.hid (htab.out.only (HOl.out.nil_trans HE.out.only)))).mono ?_)
  clear hx0
  rintro e w15 ⟨rfl, ho⟩
  replace HE := Lib.hid (HE.out.step ho)
  replace HR := Lib.hid (HR.out.step ho)
  clear ho
  go_wp2_with fail
  (with_reducible refine (parse_dec_v N 40 hm (by omega)).mono ?_)
  rintro e w16 ⟨A5, k5, c5, rfl, hrr, hv, ho⟩
  replace HE := Lib.hid ((HE.out.step ho).push hv)
  replace HR := Lib.hid (HR.out.step ho)
  have HKt := Lib.hid hrr.len
  clear hv ho hrr
  go_wp2_with fail
  have hx0 := Env.at HE 4 rfl rfl
  have hy0 := RVs.at HR 0 rfl rfl
  (with_reducible refine (is_nv hx0 HKu hy0 F0).mono ?_)
  clear hx0 hy0
  rintro e w17 ⟨rfl, ho⟩
  rw [decide_eq_true rfl]
  replace HE := Lib.hid (HE.out.step ho)
  replace HR := Lib.hid (HR.out.step ho)
  clear ho
  go_wp2_with fail
  have hx0 := Env.at HE 3 rfl rfl
  have hy0 := RVs.at HR 0 rfl rfl
  (with_reducible refine (is_nv hx0 HKd hy0 F0).mono ?_)
  clear hx0 hy0
  rintro e w18 ⟨rfl, ho⟩
  rw [decide_eq_true rfl]
  replace HE := Lib.hid (HE.out.step ho)
  replace HR := Lib.hid (HR.out.step ho)
  clear ho
  go_wp2_with fail
  have hx0 := Env.at HE 1 rfl rfl
  have hy0 := RVs.at HR 1 rfl rfl
  (with_reducible refine (is_nv hx0 HKr hy0 HFroot).mono ?_)
  clear hx0 hy0
  rintro e w19 ⟨rfl, ho⟩
  rw [decide_eq_true rfl]
  replace HE := Lib.hid (HE.out.step ho)
  replace HR := Lib.hid (HR.out.step ho)
  clear ho
  go_wp2_with fail
  have hy0 := RVs.at HR 1 rfl rfl
  have hy1 := RVs.at HR 1 rfl rfl
  (with_reducible refine (rmul_v hy0 hy1 HFroot HFroot).mono ?_)
  clear hy0 hy1
  rintro e w20 ⟨B2, l2, d2, rfl, hv, -, ho⟩
  replace HE := Lib.hid (HE.out.step ho)
  replace HR := Lib.hid (HR.out.step ho)
  replace HR := Lib.hid (HR.out.push hv)
  clear hv ho
  go_wp2_with fail
  have hy0 := RVs.at HR 3 rfl rfl
  have hy1 := RVs.at HR 0 rfl rfl
  (with_reducible refine (rsub_v hy0 hy1 HFm HLe).mono ?_)
  clear hy0 hy1
  rintro e w21 ⟨B3, l3, d3, rfl, hv, -, ho⟩
  replace HE := Lib.hid (HE.out.step ho)
  replace HR := Lib.hid (HR.out.step ho)
  replace HR := Lib.hid (HR.out.push hv)
  clear hv ho
  go_wp2_with fail
  have hx0 := Env.at HE 2 rfl rfl
  have hy0 := RVs.at HR 0 rfl rfl
  (with_reducible refine (is_nv hx0 HKs hy0 HFrest).mono ?_)
  clear hx0 hy0
  rintro e w22 ⟨rfl, ho⟩
  rw [decide_eq_true rfl]
  replace HE := Lib.hid (HE.out.step ho)
  replace HR := Lib.hid (HR.out.step ho)
  clear ho
  go_wp2_with fail
  have hx0 := Env.at HE 5 rfl rfl
  (with_reducible refine (bits_v hx0).mono ?_)
  clear hx0
  rintro e w' ⟨rfl, rfl⟩
  go_wp2_with fail
  have hy0 := RVs.at HR 4 rfl rfl
  (with_reducible refine (rbits_v hy0 HFm).mono ?_)
  clear hy0
  rintro e w' ⟨rfl, rfl⟩
  generalize (bitsN N : Int) = bl
  go_wp2_with fail
  have hx0 := Env.at HE 5 rfl rfl
  (with_reducible refine (low_v hx0 (Lib.hid (htab6.out.only (HOl.out.nil_trans HE.out.only)))).mono ?_)
  clear hx0
  rintro e w' ⟨rfl, rfl⟩
  go_wp2_with fail
  have hy0 := RVs.at HR 4 rfl rfl
  (with_reducible refine (rlow_v hy0 HFm).mono ?_)
  clear hy0
  rintro e w' ⟨rfl, rfl⟩
  generalize (lowN N : Int) = lw
  go_wp2_with fail
  have hx0 := Env.at HE 5 rfl rfl
  (with_reducible refine (text_v hx0 (Lib.hid (htab.out.only (HOl.out.nil_trans HE.out.only)))).mono ?_)
  clear hx0
  rintro e w23 ⟨rfl, ho⟩
  replace HE := Lib.hid (HE.out.step ho)
  replace HR := Lib.hid (HR.out.step ho)
  clear ho
  go_wp2_with fail
  have hy0 := RVs.at HR 4 rfl rfl
  (with_reducible refine (rtext_v hy0 HFm HDl).mono ?_)
  clear hy0
  rintro e w24 ⟨rfl, ho⟩
  replace HE := Lib.hid (HE.out.step ho)
  replace HR := Lib.hid (HR.out.step ho)
  clear ho
  generalize (⟨(Lib.decDigits N).toArray⟩ : ByteArray) = tx
  go_wp2_with fail
  have hx0 := Env.at HE 0 rfl rfl
  have hy0 := RVs.at HR 4 rfl rfl
  (with_reducible refine (is_nv hx0 HKt hy0 HFm).mono ?_)
  clear hx0 hy0
  rintro e w25 ⟨rfl, ho⟩
  rw [decide_eq_true rfl]
  replace HE := Lib.hid (HE.out.step ho)
  replace HR := Lib.hid (HR.out.step ho)
  clear ho
  go_wp2_with fail
  (with_reducible refine (stays_any gL p cL c A xs _ (Lib.hid (HL0.out.only HE.out.only (by simp))) (Lib.hid (HB0.out.only HE.out.only)) hp (by omega)).mono ?_)
  rintro e w26 ⟨rfl, ho⟩
  replace HE := Lib.hid (HE.out.step ho)
  replace HR := Lib.hid (HR.out.step ho)
  clear ho
  go_wp2_with fail
  go_ret
  exact ⟨rfl, HOl.out.nil_trans HE.out.only⟩
set_option maxHeartbeats 12800000 in
set_option maxRecDepth 100000 in
theorem shifts_e (A : Option Addr) (p c N : Nat) (xs : List Nat) (z : Int) (w : World) (htab : Hid (Tab w)) (htab6 : Hid (Tab6 w)) (HL : Hid (lightB [⟨A, p, c⟩] = true)) (hr : Hid (LRead w A xs)) (hx : Hid (Limb xs)) (hp : Hid (p = xs.length)) (hpc : p ≤ c) (hp40 : p ≤ 40) (hv : Hid (val xs = N)) (hm : Hid (Lim N 40)) (hz : z < -16777216) :
    Calls Tryd.prog 3 #[.slice A p c, .int .i64 z] w fun e w' => e = .returned (.bool true) ∧ Only [] w w' := by
  have ha : Hid (NV w (.slice A p c) N) := by
    have h := NV.mk (w := w) (c := c) ⟨hr.out, hx.out, by have := hp.out; omega⟩ (by have := hp.out; omega) (by have := hp.out; omega)
    rw [hv.out, ← hp.out] at h
    exact h
  have HFm : Hid (Few N) := hm.out.few (by omega)
  have HFU := Lib.hid (few40 hm.out z)
  have HFD := Lib.hid (few40 hm.out (-z))
  have HUe : Hid (shlN N z = 0) := shlN_far _ _ (by omega)
  have HDe : Hid (shlN N (-z) = 0) := shlN_far _ _ (by omega)
  have HRt : Hid (rootN N * rootN N ≤ N) := (rootN_is N).1
  have HFroot : Hid (Few (rootN N)) := HFm.out.le (Nat.le_trans (Nat.le_mul_self _) HRt.out)
  have HLe := HRt
  have HFrest : Hid (Few (N - rootN N * rootN N)) := HFm.out.le (Nat.sub_le _ _)
  have HDl : Hid ((Lib.decDigits N).length ≤ 1000000) := Nat.le_trans (dec_len hm.out (by omega)) (by omega)
  have F0 : Hid (Few 0) := few_small BB_pos
  have b1 : ¬ (0 : Int) ≤ z := by omega
  have b3 : z < 0 := by omega
  have b4 : ¬ (-5000 : Int) ≤ z := by omega
  have b5 : ¬ (-16777216 : Int) < z := by omega
  have b6 : (z == -16777216) = false := by rw [beq_eq_false_iff_ne]; omega
  go_enter Tryd.func3, Tryd.ntmps3
  go_wp2_with fail
  refine (light_v [⟨A, p, c⟩] 1 (Lib.hid rfl) (by omega)).mono ?_
  rintro e w1 ⟨rfl, ho1⟩
  rw [HL.out]
  have HO1 := Lib.hid ho1
  clear ho1
  go_wp2_with fail
  refine (alive1_any w1 (Lib.hid (htab.out.only HO1.out))).mono ?_
  rintro e w2 ⟨rfl, ho2⟩
  have HO2 := Lib.hid (HO1.out.nil_trans ho2)
  clear ho2
  go_wp2_with fail
  refine (from_v (Lib.hid (ha.out.only HO2.out))).mono ?_
  rintro e w3 ⟨B1, l1, d1, rfl, hv, -, ho⟩
  have HX := Lib.hid hv
  have HO3 := Lib.hid (HO2.out.nil_trans ho)
  clear hv ho
  go_wp2_with fail
  refine (lent_any A p c xs w3 (Lib.hid (hr.out.only HO3.out)) hp (by omega)).mono ?_
  rintro e wl ⟨gL, cL, rfl, hL, -, ho⟩
  have HL0 := Lib.hid hL
  have HNa := Lib.hid (hp.out ▸ (hL.nv hx.out (by have := hp.out; omega)) : NV wl (.slice (some ⟨gL, 0, none⟩) p cL) (val xs))
  have HOl := Lib.hid (HO3.out.nil_trans ho)
  have HR := Lib.hid ((RVs.start wl).push (HX.out.only ho))
  have HE := Lib.hid ((Env.start wl).push HNa.out)
  have HB0 : Hid (LRead wl A xs) := hr.out.only HOl.out
  clear hL ho HX HNa
  rw [hv.out] at HE
  go_wp2_with fail
  have hx0 := Env.at HE 0 rfl rfl
  (with_reducible refine (shl_v z hx0 HFU).mono ?_)
  clear hx0
  rintro e w11 ⟨A1, k1, c1, rfl, hr, hv, ho⟩
  replace HE := Lib.hid ((HE.out.step ho).push hv)
  replace HR := Lib.hid (HR.out.step ho)
  have HRup := Lib.hid hr
  clear hv ho hr
  go_wp2_with fail
  have hx0 := Env.at HE 1 rfl rfl
  (with_reducible refine (shr_v z hx0 HFD).mono ?_)
  clear hx0
  rintro e w12 ⟨A2, k2, c2, rfl, hr, hv, ho⟩
  replace HE := Lib.hid ((HE.out.step ho).push hv)
  replace HR := Lib.hid (HR.out.step ho)
  have HRdown := Lib.hid hr
  clear hv ho hr
  go_wp2_with fail
  have hx0 := Env.at HE 2 rfl rfl
  (with_reducible refine (sqrt_v hx0).mono ?_)
  clear hx0
  rintro e w13 ⟨A3, k3, c3, A4, k4, c4, _, _, rfl, rfl, rfl, hr1, hr2, hv1, hv2, -, ho⟩
  replace HE := Lib.hid (((HE.out.step ho).push hv2).push hv1)
  replace HR := Lib.hid (HR.out.step ho)
  have HRr := Lib.hid hr1
  have HRs := Lib.hid hr2
  clear hv1 hv2 ho hr1 hr2
  go_wp2_with fail
  have hy0 := RVs.at HR 0 rfl rfl
  (with_reducible refine (rsqrt_v hy0 HFm).mono ?_)
  clear hy0
  rintro e w14 ⟨B1, l1, d1, rfl, hv, -, ho⟩
  replace HE := Lib.hid (HE.out.step ho)
  replace HR := Lib.hid (HR.out.step ho)
  replace HR := Lib.hid (HR.out.push hv)
  clear hv ho
  go_wp2_with fail
  rw [HUe.out, HDe.out] at HE
  rw [HUe.out] at HRup
  rw [HDe.out] at HRdown
  replace HR := Lib.hid (HR.out.push (RV.nil _))
  have HKu := Lib.hid HRup.out.len
  have HKd := Lib.hid HRdown.out.len
  have HKr := Lib.hid HRr.out.len
  have HKs := Lib.hid HRs.out.len
  have hx0 := Env.at HE 4 rfl rfl
  (with_reducible refine (text_v hx0 (Lib.hid (htab.out.only (HOl.out.nil_trans HE.out.only)))).mono ?_)
  clear hx0
  rintro e w15 ⟨rfl, ho⟩
  replace HE := Lib.hid (HE.out.step ho)
  replace HR := Lib.hid (HR.out.step ho)
  clear ho
  go_wp2_with fail
  (with_reducible refine (parse_dec_v N 40 hm (by omega)).mono ?_)
  rintro e w16 ⟨A5, k5, c5, rfl, hrr, hv, ho⟩
  replace HE := Lib.hid ((HE.out.step ho).push hv)
  replace HR := Lib.hid (HR.out.step ho)
  have HKt := Lib.hid hrr.len
  clear hv ho hrr
  go_wp2_with fail
  have hx0 := Env.at HE 4 rfl rfl
  have hy0 := RVs.at HR 0 rfl rfl
  (with_reducible refine (is_nv hx0 HKu hy0 F0).mono ?_)
  clear hx0 hy0
  rintro e w17 ⟨rfl, ho⟩
  rw [decide_eq_true rfl]
  replace HE := Lib.hid (HE.out.step ho)
  replace HR := Lib.hid (HR.out.step ho)
  clear ho
  go_wp2_with fail
  have hx0 := Env.at HE 3 rfl rfl
  have hy0 := RVs.at HR 0 rfl rfl
  (with_reducible refine (is_nv hx0 HKd hy0 F0).mono ?_)
  clear hx0 hy0
  rintro e w18 ⟨rfl, ho⟩
  rw [decide_eq_true rfl]
  replace HE := Lib.hid (HE.out.step ho)
  replace HR := Lib.hid (HR.out.step ho)
  clear ho
  go_wp2_with fail
  have hx0 := Env.at HE 1 rfl rfl
  have hy0 := RVs.at HR 1 rfl rfl
  (with_reducible refine (is_nv hx0 HKr hy0 HFroot).mono ?_)
  clear hx0 hy0
  rintro e w19 ⟨rfl, ho⟩
  rw [decide_eq_true rfl]
  replace HE := Lib.hid (HE.out.step ho)
  replace HR := Lib.hid (HR.out.step ho)
  clear ho
  go_wp2_with fail
  have hy0 := RVs.at HR 1 rfl rfl
  have hy1 := RVs.at HR 1 rfl rfl
  (with_reducible refine (rmul_v hy0 hy1 HFroot HFroot).mono ?_)
  clear hy0 hy1
  rintro e w20 ⟨B2, l2, d2, rfl, hv, -, ho⟩
  replace HE := Lib.hid (HE.out.step ho)
  replace HR := Lib.hid (HR.out.step ho)
  replace HR := Lib.hid (HR.out.push hv)
  clear hv ho
  go_wp2_with fail
  have hy0 := RVs.at HR 3 rfl rfl
  have hy1 := RVs.at HR 0 rfl rfl
  (with_reducible refine (rsub_v hy0 hy1 HFm HLe).mono ?_)
  clear hy0 hy1
  rintro e w21 ⟨B3, l3, d3, rfl, hv, -, ho⟩
  replace HE := Lib.hid (HE.out.step ho)
  replace HR := Lib.hid (HR.out.step ho)
  replace HR := Lib.hid (HR.out.push hv)
  clear hv ho
  go_wp2_with fail
  have hx0 := Env.at HE 2 rfl rfl
  have hy0 := RVs.at HR 0 rfl rfl
  (with_reducible refine (is_nv hx0 HKs hy0 HFrest).mono ?_)
  clear hx0 hy0
  rintro e w22 ⟨rfl, ho⟩
  rw [decide_eq_true rfl]
  replace HE := Lib.hid (HE.out.step ho)
  replace HR := Lib.hid (HR.out.step ho)
  clear ho
  go_wp2_with fail
  have hx0 := Env.at HE 5 rfl rfl
  (with_reducible refine (bits_v hx0).mono ?_)
  clear hx0
  rintro e w' ⟨rfl, rfl⟩
  go_wp2_with fail
  have hy0 := RVs.at HR 4 rfl rfl
  (with_reducible refine (rbits_v hy0 HFm).mono ?_)
  clear hy0
  rintro e w' ⟨rfl, rfl⟩
  generalize (bitsN N : Int) = bl
  go_wp2_with fail
  have hx0 := Env.at HE 5 rfl rfl
  (with_reducible refine (low_v hx0 (Lib.hid (htab6.out.only (HOl.out.nil_trans HE.out.only)))).mono ?_)
  clear hx0
  rintro e w' ⟨rfl, rfl⟩
  go_wp2_with fail
  have hy0 := RVs.at HR 4 rfl rfl
  (with_reducible refine (rlow_v hy0 HFm).mono ?_)
  clear hy0
  rintro e w' ⟨rfl, rfl⟩
  generalize (lowN N : Int) = lw
  go_wp2_with fail
  have hx0 := Env.at HE 5 rfl rfl
  (with_reducible refine (text_v hx0 (Lib.hid (htab.out.only (HOl.out.nil_trans HE.out.only)))).mono ?_)
  clear hx0
  rintro e w23 ⟨rfl, ho⟩
  replace HE := Lib.hid (HE.out.step ho)
  replace HR := Lib.hid (HR.out.step ho)
  clear ho
  go_wp2_with fail
  have hy0 := RVs.at HR 4 rfl rfl
  (with_reducible refine (rtext_v hy0 HFm HDl).mono ?_)
  clear hy0
  rintro e w24 ⟨rfl, ho⟩
  replace HE := Lib.hid (HE.out.step ho)
  replace HR := Lib.hid (HR.out.step ho)
  clear ho
  generalize (⟨(Lib.decDigits N).toArray⟩ : ByteArray) = tx
  go_wp2_with fail
  have hx0 := Env.at HE 0 rfl rfl
  have hy0 := RVs.at HR 4 rfl rfl
  (with_reducible refine (is_nv hx0 HKt hy0 HFm).mono ?_)
  clear hx0 hy0
  rintro e w25 ⟨rfl, ho⟩
  rw [decide_eq_true rfl]
  replace HE := Lib.hid (HE.out.step ho)
  replace HR := Lib.hid (HR.out.step ho)
  clear ho
  go_wp2_with fail
  (with_reducible refine (stays_any gL p cL c A xs _ (Lib.hid (HL0.out.only HE.out.only (by simp))) (Lib.hid (HB0.out.only HE.out.only)) hp (by omega)).mono ?_)
  rintro e w26 ⟨rfl, ho⟩
  replace HE := Lib.hid (HE.out.step ho)
  replace HR := Lib.hid (HR.out.step ho)
  clear ho
  go_wp2_with fail
  go_ret
  exact ⟨rfl, HOl.out.nil_trans HE.out.only⟩
set_option maxHeartbeats 12800000 in
set_option maxRecDepth 100000 in
theorem shifts_c (A : Option Addr) (p c N : Nat) (xs : List Nat) (z : Int) (w : World) (htab : Hid (Tab w)) (_ : Hid (Tab6 w)) (HL : Hid (lightB [⟨A, p, c⟩] = true)) (hr : Hid (LRead w A xs)) (hx : Hid (Limb xs)) (hp : Hid (p = xs.length)) (hpc : p ≤ c) (hp40 : p ≤ 40) (hv : Hid (val xs = N)) (hm : Hid (Lim N 40)) (hz : 5000 < z) (hz2 : z ≤ 16777216) :
    Calls Tryd.prog 3 #[.slice A p c, .int .i64 z] w fun e w' => e = .returned (.bool true) ∧ Only [] w w' := by
  have ha : Hid (NV w (.slice A p c) N) := by
    have h := NV.mk (w := w) (c := c) ⟨hr.out, hx.out, by have := hp.out; omega⟩ (by have := hp.out; omega) (by have := hp.out; omega)
    rw [hv.out, ← hp.out] at h
    exact h
  have HFm : Hid (Few N) := hm.out.few (by omega)
  have HFU := Lib.hid (few40 hm.out z)
  have HFD := Lib.hid (few40 hm.out (-z))
  have HRt : Hid (rootN N * rootN N ≤ N) := (rootN_is N).1
  have HFroot : Hid (Few (rootN N)) := HFm.out.le (Nat.le_trans (Nat.le_mul_self _) HRt.out)
  have HLe := HRt
  have HFrest : Hid (Few (N - rootN N * rootN N)) := HFm.out.le (Nat.sub_le _ _)
  have HDl : Hid ((Lib.decDigits N).length ≤ 1000000) := Nat.le_trans (dec_len hm.out (by omega)) (by omega)
  have F0 : Hid (Few 0) := few_small BB_pos
  have b1 : (0 : Int) ≤ z := by omega
  have b2 : ¬ z ≤ 5000 := by omega
  have b3 : ¬ z < 0 := by omega
  have b4 : (-16777216 : Int) < z := by omega
  have b5 : z ≤ 16777216 := by omega
  have b6 : (z != -16777216) = true := by rw [bne_iff_ne]; omega
  go_enter Tryd.func3, Tryd.ntmps3
  go_wp2_with fail
  refine (light_v [⟨A, p, c⟩] 1 (Lib.hid rfl) (by omega)).mono ?_
  rintro e w1 ⟨rfl, ho1⟩
  rw [HL.out]
  have HO1 := Lib.hid ho1
  clear ho1
  go_wp2_with fail
  refine (alive1_any w1 (Lib.hid (htab.out.only HO1.out))).mono ?_
  rintro e w2 ⟨rfl, ho2⟩
  have HO2 := Lib.hid (HO1.out.nil_trans ho2)
  clear ho2
  go_wp2_with fail
  refine (from_v (Lib.hid (ha.out.only HO2.out))).mono ?_
  rintro e w3 ⟨B1, l1, d1, rfl, hv, -, ho⟩
  have HX := Lib.hid hv
  have HO3 := Lib.hid (HO2.out.nil_trans ho)
  clear hv ho
  go_wp2_with fail
  refine (lent_any A p c xs w3 (Lib.hid (hr.out.only HO3.out)) hp (by omega)).mono ?_
  rintro e wl ⟨gL, cL, rfl, hL, -, ho⟩
  have HL0 := Lib.hid hL
  have HNa := Lib.hid (hp.out ▸ (hL.nv hx.out (by have := hp.out; omega)) : NV wl (.slice (some ⟨gL, 0, none⟩) p cL) (val xs))
  have HOl := Lib.hid (HO3.out.nil_trans ho)
  have HR := Lib.hid ((RVs.start wl).push (HX.out.only ho))
  have HE := Lib.hid ((Env.start wl).push HNa.out)
  have HB0 : Hid (LRead wl A xs) := hr.out.only HOl.out
  clear hL ho HX HNa
  rw [hv.out] at HE
  go_wp2_with fail
  have hx0 := Env.at HE 0 rfl rfl
  (with_reducible refine (shl_v z hx0 HFU).mono ?_)
  clear hx0
  rintro e w11 ⟨A1, k1, c1, rfl, hr, hv, ho⟩
  replace HE := Lib.hid ((HE.out.step ho).push hv)
  replace HR := Lib.hid (HR.out.step ho)
  have HRup := Lib.hid hr
  clear hv ho hr
  go_wp2_with fail
  have hx0 := Env.at HE 1 rfl rfl
  (with_reducible refine (shr_v z hx0 HFD).mono ?_)
  clear hx0
  rintro e w12 ⟨A2, k2, c2, rfl, hr, hv, ho⟩
  replace HE := Lib.hid ((HE.out.step ho).push hv)
  replace HR := Lib.hid (HR.out.step ho)
  have HRdown := Lib.hid hr
  clear hv ho hr
  go_wp2_with fail
  have hx0 := Env.at HE 2 rfl rfl
  (with_reducible refine (sqrt_v hx0).mono ?_)
  clear hx0
  rintro e w13 ⟨A3, k3, c3, A4, k4, c4, _, _, rfl, rfl, rfl, hr1, hr2, hv1, hv2, -, ho⟩
  replace HE := Lib.hid (((HE.out.step ho).push hv2).push hv1)
  replace HR := Lib.hid (HR.out.step ho)
  have HRr := Lib.hid hr1
  have HRs := Lib.hid hr2
  clear hv1 hv2 ho hr1 hr2
  go_wp2_with fail
  have hy0 := RVs.at HR 0 rfl rfl
  (with_reducible refine (rsqrt_v hy0 HFm).mono ?_)
  clear hy0
  rintro e w14 ⟨B1, l1, d1, rfl, hv, -, ho⟩
  replace HE := Lib.hid (HE.out.step ho)
  replace HR := Lib.hid (HR.out.step ho)
  replace HR := Lib.hid (HR.out.push hv)
  clear hv ho
  go_wp2_with fail
  have hx0 := Env.at HE 4 rfl rfl
  (with_reducible refine (bits_v hx0).mono ?_)
  clear hx0
  rintro e w' ⟨rfl, rfl⟩
  go_wp2_with fail
  have hy0 := RVs.at HR 1 rfl rfl
  (with_reducible refine (rbits_v hy0 HFm).mono ?_)
  clear hy0
  rintro e w' ⟨rfl, rfl⟩
  generalize (bitsN N : Int) = bl
  go_wp2_with fail
  go_ret
  exact ⟨rfl, HOl.out.nil_trans HE.out.only⟩
set_option maxHeartbeats 12800000 in
set_option maxRecDepth 100000 in
theorem shifts_f (A : Option Addr) (p c N : Nat) (xs : List Nat) (z : Int) (w : World) (htab : Hid (Tab w)) (_ : Hid (Tab6 w)) (HL : Hid (lightB [⟨A, p, c⟩] = true)) (hr : Hid (LRead w A xs)) (hx : Hid (Limb xs)) (hp : Hid (p = xs.length)) (hpc : p ≤ c) (hp40 : p ≤ 40) (hv : Hid (val xs = N)) (hm : Hid (Lim N 40)) (hz : z < -5000) (hz2 : -16777216 < z) :
    Calls Tryd.prog 3 #[.slice A p c, .int .i64 z] w fun e w' => e = .returned (.bool true) ∧ Only [] w w' := by
  have ha : Hid (NV w (.slice A p c) N) := by
    have h := NV.mk (w := w) (c := c) ⟨hr.out, hx.out, by have := hp.out; omega⟩ (by have := hp.out; omega) (by have := hp.out; omega)
    rw [hv.out, ← hp.out] at h
    exact h
  have HFm : Hid (Few N) := hm.out.few (by omega)
  have HFU := Lib.hid (few40 hm.out z)
  have HFD := Lib.hid (few40 hm.out (-z))
  have HRt : Hid (rootN N * rootN N ≤ N) := (rootN_is N).1
  have HFroot : Hid (Few (rootN N)) := HFm.out.le (Nat.le_trans (Nat.le_mul_self _) HRt.out)
  have HLe := HRt
  have HFrest : Hid (Few (N - rootN N * rootN N)) := HFm.out.le (Nat.sub_le _ _)
  have HDl : Hid ((Lib.decDigits N).length ≤ 1000000) := Nat.le_trans (dec_len hm.out (by omega)) (by omega)
  have F0 : Hid (Few 0) := few_small BB_pos
  have b1 : ¬ (0 : Int) ≤ z := by omega
  have b3 : z < 0 := by omega
  have b4 : ¬ (-5000 : Int) ≤ z := by omega
  have b5 : (-16777216 : Int) < z := by omega
  have b7 : z ≤ 16777216 := by omega
  have b6 : (z != -16777216) = true := by rw [bne_iff_ne]; omega
  go_enter Tryd.func3, Tryd.ntmps3
  go_wp2_with fail
  refine (light_v [⟨A, p, c⟩] 1 (Lib.hid rfl) (by omega)).mono ?_
  rintro e w1 ⟨rfl, ho1⟩
  rw [HL.out]
  have HO1 := Lib.hid ho1
  clear ho1
  go_wp2_with fail
  refine (alive1_any w1 (Lib.hid (htab.out.only HO1.out))).mono ?_
  rintro e w2 ⟨rfl, ho2⟩
  have HO2 := Lib.hid (HO1.out.nil_trans ho2)
  clear ho2
  go_wp2_with fail
  refine (from_v (Lib.hid (ha.out.only HO2.out))).mono ?_
  rintro e w3 ⟨B1, l1, d1, rfl, hv, -, ho⟩
  have HX := Lib.hid hv
  have HO3 := Lib.hid (HO2.out.nil_trans ho)
  clear hv ho
  go_wp2_with fail
  refine (lent_any A p c xs w3 (Lib.hid (hr.out.only HO3.out)) hp (by omega)).mono ?_
  rintro e wl ⟨gL, cL, rfl, hL, -, ho⟩
  have HL0 := Lib.hid hL
  have HNa := Lib.hid (hp.out ▸ (hL.nv hx.out (by have := hp.out; omega)) : NV wl (.slice (some ⟨gL, 0, none⟩) p cL) (val xs))
  have HOl := Lib.hid (HO3.out.nil_trans ho)
  have HR := Lib.hid ((RVs.start wl).push (HX.out.only ho))
  have HE := Lib.hid ((Env.start wl).push HNa.out)
  have HB0 : Hid (LRead wl A xs) := hr.out.only HOl.out
  clear hL ho HX HNa
  rw [hv.out] at HE
  go_wp2_with fail
  have hx0 := Env.at HE 0 rfl rfl
  (with_reducible refine (shl_v z hx0 HFU).mono ?_)
  clear hx0
  rintro e w11 ⟨A1, k1, c1, rfl, hr, hv, ho⟩
  replace HE := Lib.hid ((HE.out.step ho).push hv)
  replace HR := Lib.hid (HR.out.step ho)
  have HRup := Lib.hid hr
  clear hv ho hr
  go_wp2_with fail
  have hx0 := Env.at HE 1 rfl rfl
  (with_reducible refine (shr_v z hx0 HFD).mono ?_)
  clear hx0
  rintro e w12 ⟨A2, k2, c2, rfl, hr, hv, ho⟩
  replace HE := Lib.hid ((HE.out.step ho).push hv)
  replace HR := Lib.hid (HR.out.step ho)
  have HRdown := Lib.hid hr
  clear hv ho hr
  go_wp2_with fail
  have hx0 := Env.at HE 2 rfl rfl
  (with_reducible refine (sqrt_v hx0).mono ?_)
  clear hx0
  rintro e w13 ⟨A3, k3, c3, A4, k4, c4, _, _, rfl, rfl, rfl, hr1, hr2, hv1, hv2, -, ho⟩
  replace HE := Lib.hid (((HE.out.step ho).push hv2).push hv1)
  replace HR := Lib.hid (HR.out.step ho)
  have HRr := Lib.hid hr1
  have HRs := Lib.hid hr2
  clear hv1 hv2 ho hr1 hr2
  go_wp2_with fail
  have hy0 := RVs.at HR 0 rfl rfl
  (with_reducible refine (rsqrt_v hy0 HFm).mono ?_)
  clear hy0
  rintro e w14 ⟨B1, l1, d1, rfl, hv, -, ho⟩
  replace HE := Lib.hid (HE.out.step ho)
  replace HR := Lib.hid (HR.out.step ho)
  replace HR := Lib.hid (HR.out.push hv)
  clear hv ho
  go_wp2_with fail
  have hx0 := Env.at HE 4 rfl rfl
  (with_reducible refine (bits_v hx0).mono ?_)
  clear hx0
  rintro e w' ⟨rfl, rfl⟩
  go_wp2_with fail
  have hy0 := RVs.at HR 1 rfl rfl
  (with_reducible refine (rbits_v hy0 HFm).mono ?_)
  clear hy0
  rintro e w' ⟨rfl, rfl⟩
  generalize (bitsN N : Int) = bl
  go_wp2_with fail
  go_ret
  exact ⟨rfl, HOl.out.nil_trans HE.out.only⟩
set_option maxHeartbeats 12800000 in
set_option maxRecDepth 100000 in
theorem shifts_g (A : Option Addr) (p c N : Nat) (xs : List Nat) (w : World) (htab : Hid (Tab w)) (_ : Hid (Tab6 w)) (HL : Hid (lightB [⟨A, p, c⟩] = true)) (hr : Hid (LRead w A xs)) (hx : Hid (Limb xs)) (hp : Hid (p = xs.length)) (hpc : p ≤ c) (hp40 : p ≤ 40) (hv : Hid (val xs = N)) (hm : Hid (Lim N 40))  :
    Calls Tryd.prog 3 #[.slice A p c, .int .i64 (-16777216)] w fun e w' => e = .returned (.bool true) ∧ Only [] w w' := by
  have ha : Hid (NV w (.slice A p c) N) := by
    have h := NV.mk (w := w) (c := c) ⟨hr.out, hx.out, by have := hp.out; omega⟩ (by have := hp.out; omega) (by have := hp.out; omega)
    rw [hv.out, ← hp.out] at h
    exact h
  have HFm : Hid (Few N) := hm.out.few (by omega)
  have HFU := Lib.hid (few40 hm.out (-16777216))
  have HFD := Lib.hid (few40 hm.out (-(-16777216)))
  have HRt : Hid (rootN N * rootN N ≤ N) := (rootN_is N).1
  have HFroot : Hid (Few (rootN N)) := HFm.out.le (Nat.le_trans (Nat.le_mul_self _) HRt.out)
  have HLe := HRt
  have HFrest : Hid (Few (N - rootN N * rootN N)) := HFm.out.le (Nat.sub_le _ _)
  have HDl : Hid ((Lib.decDigits N).length ≤ 1000000) := Nat.le_trans (dec_len hm.out (by omega)) (by omega)
  have F0 : Hid (Few 0) := few_small BB_pos
  go_enter Tryd.func3, Tryd.ntmps3
  go_wp2_with fail
  refine (light_v [⟨A, p, c⟩] 1 (Lib.hid rfl) (by omega)).mono ?_
  rintro e w1 ⟨rfl, ho1⟩
  rw [HL.out]
  have HO1 := Lib.hid ho1
  clear ho1
  go_wp2_with fail
  refine (alive1_any w1 (Lib.hid (htab.out.only HO1.out))).mono ?_
  rintro e w2 ⟨rfl, ho2⟩
  have HO2 := Lib.hid (HO1.out.nil_trans ho2)
  clear ho2
  go_wp2_with fail
  refine (from_v (Lib.hid (ha.out.only HO2.out))).mono ?_
  rintro e w3 ⟨B1, l1, d1, rfl, hv, -, ho⟩
  have HX := Lib.hid hv
  have HO3 := Lib.hid (HO2.out.nil_trans ho)
  clear hv ho
  go_wp2_with fail
  refine (lent_any A p c xs w3 (Lib.hid (hr.out.only HO3.out)) hp (by omega)).mono ?_
  rintro e wl ⟨gL, cL, rfl, hL, -, ho⟩
  have HL0 := Lib.hid hL
  have HNa := Lib.hid (hp.out ▸ (hL.nv hx.out (by have := hp.out; omega)) : NV wl (.slice (some ⟨gL, 0, none⟩) p cL) (val xs))
  have HOl := Lib.hid (HO3.out.nil_trans ho)
  have HR := Lib.hid ((RVs.start wl).push (HX.out.only ho))
  have HE := Lib.hid ((Env.start wl).push HNa.out)
  have HB0 : Hid (LRead wl A xs) := hr.out.only HOl.out
  clear hL ho HX HNa
  rw [hv.out] at HE
  go_wp2_with fail
  have hx0 := Env.at HE 0 rfl rfl
  (with_reducible refine (shl_v (-16777216) hx0 HFU).mono ?_)
  clear hx0
  rintro e w11 ⟨A1, k1, c1, rfl, hr, hv, ho⟩
  replace HE := Lib.hid ((HE.out.step ho).push hv)
  replace HR := Lib.hid (HR.out.step ho)
  have HRup := Lib.hid hr
  clear hv ho hr
  go_wp2_with fail
  have hx0 := Env.at HE 1 rfl rfl
  (with_reducible refine (shr_v (-16777216) hx0 HFD).mono ?_)
  clear hx0
  rintro e w12 ⟨A2, k2, c2, rfl, hr, hv, ho⟩
  replace HE := Lib.hid ((HE.out.step ho).push hv)
  replace HR := Lib.hid (HR.out.step ho)
  have HRdown := Lib.hid hr
  clear hv ho hr
  go_wp2_with fail
  have hx0 := Env.at HE 2 rfl rfl
  (with_reducible refine (sqrt_v hx0).mono ?_)
  clear hx0
  rintro e w13 ⟨A3, k3, c3, A4, k4, c4, _, _, rfl, rfl, rfl, hr1, hr2, hv1, hv2, -, ho⟩
  replace HE := Lib.hid (((HE.out.step ho).push hv2).push hv1)
  replace HR := Lib.hid (HR.out.step ho)
  have HRr := Lib.hid hr1
  have HRs := Lib.hid hr2
  clear hv1 hv2 ho hr1 hr2
  go_wp2_with fail
  have hy0 := RVs.at HR 0 rfl rfl
  (with_reducible refine (rsqrt_v hy0 HFm).mono ?_)
  clear hy0
  rintro e w14 ⟨B1, l1, d1, rfl, hv, -, ho⟩
  replace HE := Lib.hid (HE.out.step ho)
  replace HR := Lib.hid (HR.out.step ho)
  replace HR := Lib.hid (HR.out.push hv)
  clear hv ho
  go_wp2_with fail
  go_ret
  exact ⟨rfl, HOl.out.nil_trans HE.out.only⟩

theorem natShifts_any (A : Option Addr) (c : Nat) (xs : List Nat) (n : Int) (w : World) (hA : LimbsIn w A xs) (hc : xs.length ≤ c) (_ : c ≤ maxLen) (_ : (Lit.int .i64 n).wf = true) (htab : Tab w) (htab6 : Tab6 w) :
    Calls Tryd.prog 3 #[.slice A xs.length c, .int .i64 n] w fun e w' => e = .returned (.bool true) ∧ Only [] w w' := by
  cases hl : lightB [⟨A, xs.length, c⟩] with
  | false => exact shifts_out A _ c n w htab hl
  | true =>
    have h2 : xs.length ≤ 40 := by simpa [lightB] using hl
    have hm := Lib.hid (Lim.val hA.2 h2)
    by_cases h0 : 0 ≤ n
    · by_cases h1 : n ≤ 5000
      · obtain ⟨k, rfl⟩ : ∃ k : Nat, n = (k : Int) := ⟨n.toNat, by omega⟩
        exact shifts_a A _ c _ xs k w htab htab6 (Lib.hid hl) (Lib.hid hA.1) (Lib.hid hA.2) (Lib.hid rfl) hc h2 (Lib.hid rfl) hm h1
      · by_cases h3 : n ≤ 16777216
        · exact shifts_c A _ c _ xs n w htab htab6 (Lib.hid hl) (Lib.hid hA.1) (Lib.hid hA.2) (Lib.hid rfl) hc h2 (Lib.hid rfl) hm (by omega) h3
        · exact shifts_d A _ c _ xs n w htab htab6 (Lib.hid hl) (Lib.hid hA.1) (Lib.hid hA.2) (Lib.hid rfl) hc h2 (Lib.hid rfl) hm (by omega)
    · by_cases h1 : -5000 ≤ n
      · obtain ⟨k, rfl⟩ : ∃ k : Nat, n = -(k : Int) := ⟨(-n).toNat, by omega⟩
        exact shifts_b A _ c _ xs k w htab htab6 (Lib.hid hl) (Lib.hid hA.1) (Lib.hid hA.2) (Lib.hid rfl) hc h2 (Lib.hid rfl) hm (by omega) (by omega)
      · by_cases h3 : -16777216 < n
        · exact shifts_f A _ c _ xs n w htab htab6 (Lib.hid hl) (Lib.hid hA.1) (Lib.hid hA.2) (Lib.hid rfl) hc h2 (Lib.hid rfl) hm (by omega) h3
        · by_cases h4 : n = -16777216
          · subst h4
            exact shifts_g A _ c _ xs w htab htab6 (Lib.hid hl) (Lib.hid hA.1) (Lib.hid hA.2) (Lib.hid rfl) hc h2 (Lib.hid rfl) hm
          · exact shifts_e A _ c _ xs n w htab htab6 (Lib.hid hl) (Lib.hid hA.1) (Lib.hid hA.2) (Lib.hid rfl) hc h2 (Lib.hid rfl) hm (by omega)
end Go.Proofs.YtafipkighpjknaaDoor
