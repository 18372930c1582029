/-
  NatTells: the law's walk.
-/
import Derived.Test.YtmjnifjohfljaaaGreatDoorTaGNV
import Derived.Test.YtmjnifjohfljaaaGreatDoorTaGRefS
import Derived.Test.YtmjnifjohfljaaaGreatDoorTaRefJ
import Derived.Test.YtmjnifjohfljaaaGreatDoorTaREnv
import Derived.Test.YtmjnifjohfljaaaGreatDoorTaLent
import Derived.Test.YtmjnifjohfljaaaGreatDoorTaLimbsIn
import Derived.Test.YtmjnifjohfljaaaGreatDoorTaDoorN
import Derived.Test.YtmjnifjohfljaaaGreatDoorTaKp
namespace Go.Proofs.YtmjnifjohfljaaaGreatDoor
open Go.RowKit

theorem NV.few_len {n k : Nat} (h : Lim n k) (hk : k ≤ 700) : (limbsOf n).length ≤ 700 := Nat.le_trans (limbsOf_len_le h) hk
theorem RV.form {w : World} {A : Option Addr} {l d n : Nat} (h : RV w (.slice A l d) n) : l = (R.limbsOf n).length := by
  obtain ⟨A', c', e, _⟩ := h
  injection e
set_option maxHeartbeats 800000 in
set_option maxRecDepth 100000 in
theorem ntells_out (A B : Option Addr) (p c q d : Nat) (cut : Int) (w : World) (htab : Hid (Tab w)) (hl : lightB [⟨A, p, c⟩, ⟨B, q, d⟩] = false) :
    Calls Tryz.prog 3 #[.slice A p c, .slice B q d, .int .i64 cut] w fun e w' => e = .returned (.bool true) ∧ Only [] w w' := by
  have HL := Lib.hid hl
  clear hl
  go_enter Tryz.func3, Tryz.ntmps3
  go_wp2_with fail
  refine (light_v [⟨A, p, c⟩, ⟨B, q, d⟩] 2 (Lib.hid rfl) (by omega)).mono ?_
  rintro e w1 ⟨rfl, ho1⟩
  rw [HL.out]
  have HO1 := Lib.hid ho1
  clear ho1
  go_wp2_with fail
  refine (alive1_any w1 (Lib.hid (htab.out.only HO1.out))).mono ?_
  rintro e w2 ⟨rfl, ho2⟩
  have HO2 := Lib.hid (HO1.out.nil_trans ho2)
  clear ho2
  go_wp2_with fail
  go_ret
  exact ⟨rfl, HO2.out⟩
set_option maxHeartbeats 12800000 in
set_option maxRecDepth 100000 in
theorem ntells_11 (A B : Option Addr) (p c q d N M : Nat) (xs ys : List Nat) (cut : Int) (w : World) (htab : Hid (Tab w)) (HL : Hid (lightB [⟨A, p, c⟩, ⟨B, q, d⟩] = true)) (hr : Hid (LRead w A xs)) (hx : Hid (Limb xs)) (hp : Hid (p = xs.length)) (hpc : p ≤ c) (hp40 : p ≤ 40) (hva : Hid (val xs = N))
    (hs : Hid (LRead w B ys)) (hy : Hid (Limb ys)) (hq : Hid (q = ys.length)) (hqd : q ≤ d) (hq40 : q ≤ 40) (hvb : Hid (val ys = M)) (hn40 : Hid (Lim N 40)) (hm40 : Hid (Lim M 40)) (hM : Hid (M ≠ 0)) (hN : Hid (M ≤ N)) :
    Calls Tryz.prog 3 #[.slice A p c, .slice B q d, .int .i64 cut] w fun e w' => e = .returned (.bool true) ∧ Only [] w w' := by
  have ha : Hid (NV w (.slice A p c) N) := by
    have h := NV.mk (w := w) (c := c) ⟨hr.out, hx.out, by have := hp.out; omega⟩ (by have := hp.out; omega) (by have := hp.out; omega)
    rw [hva.out, ← hp.out] at h
    exact h
  have hb : Hid (NV w (.slice B q d) M) := by
    have h := NV.mk (w := w) (c := d) ⟨hs.out, hy.out, by have := hq.out; omega⟩ (by have := hq.out; omega) (by have := hq.out; omega)
    rw [hvb.out, ← hq.out] at h
    exact h
  have HFN : Hid (Few N) := hn40.out.few (by omega)
  have HFM : Hid (Few M) := hm40.out.few (by omega)
  have HLs : Hid (Lim (N + M) 81) := hn40.out.add hm40.out
  have HLm : Hid (Lim (N * M) 80) := hn40.out.mul hm40.out
  have HLr : Hid (Lim (if M = 0 then 0 else N % M) 40) := hn40.out.le (by split; omega; exact Nat.mod_le _ _)
  have HFs : Hid (Few (N + M)) := HLs.out.few (by omega)
  have HFm : Hid (Few (N * M)) := HLm.out.few (by omega)
  have HFq : Hid (Few (N / M)) := HFN.out.le (Nat.div_le_self _ _)
  have HFr : Hid (Few (if M = 0 then 0 else N % M)) := HLr.out.few (by omega)
  have HFd : Hid (Few (N - M)) := HFN.out.le (Nat.sub_le _ _)
  have HlN : Hid ((limbsOf N).length ≤ 700) := NV.few_len hn40.out (by omega)
  have HlS : Hid ((limbsOf (N + M)).length ≤ 700) := NV.few_len HLs.out (by omega)
  have HlP : Hid ((limbsOf (N * M)).length ≤ 700) := NV.few_len HLm.out (by omega)
  have HlQ : Hid ((limbsOf (N / M)).length ≤ 700) := NV.few_len (hn40.out.le (Nat.div_le_self _ _)) (by omega)
  have HlR : Hid ((limbsOf (if M = 0 then 0 else N % M)).length ≤ 700) := NV.few_len HLr.out (by omega)
  have HlD : Hid ((limbsOf (N - M)).length ≤ 700) := NV.few_len (hn40.out.le (Nat.sub_le _ _)) (by omega)
  go_enter Tryz.func3, Tryz.ntmps3
  go_wp2_with fail
  refine (light_v [⟨A, p, c⟩, ⟨B, q, d⟩] 2 (Lib.hid rfl) (by omega)).mono ?_
  rintro e w1 ⟨rfl, ho1⟩
  rw [HL.out]
  have HO1 := Lib.hid ho1
  clear ho1
  go_wp2_with fail
  refine (alive1_any w1 (Lib.hid (htab.out.only HO1.out))).mono ?_
  rintro e w2 ⟨rfl, ho2⟩
  have HO2 := Lib.hid (HO1.out.nil_trans ho2)
  clear ho2
  go_wp2_with fail
  refine (from_v (Lib.hid (ha.out.only HO2.out))).mono ?_
  rintro e w3 ⟨X, lx, dx, rfl, hv, -, ho⟩
  have HX := Lib.hid hv
  have HO3 := Lib.hid (HO2.out.nil_trans ho)
  clear hv ho
  go_wp2_with fail
  refine (from_v (Lib.hid (hb.out.only HO3.out))).mono ?_
  rintro e w4 ⟨Y, ly, dy, rfl, hv, -, ho⟩
  replace HX := Lib.hid (HX.out.only ho)
  have HY := Lib.hid hv
  have HO4 := Lib.hid (HO3.out.nil_trans ho)
  clear hv ho
  go_wp2_with fail
  refine (lent_any A p c xs w4 (Lib.hid (hr.out.only HO4.out)) hp (by omega)).mono ?_
  rintro e w5 ⟨gL, cL, rfl, hL, -, ho⟩
  have HLa := Lib.hid hL
  have HNa := Lib.hid (hp.out ▸ (hL.nv hx.out (by have := hp.out; omega)) : NV w5 (.slice (some ⟨gL, 0, none⟩) p cL) (val xs))
  replace HX := Lib.hid (HX.out.only ho)
  replace HY := Lib.hid (HY.out.only ho)
  have HO5 := Lib.hid (HO4.out.nil_trans ho)
  clear hL ho
  go_wp2_with fail
  refine (lent_any B q d ys w5 (Lib.hid (hs.out.only HO5.out)) hq (by omega)).mono ?_
  rintro e w6 ⟨gM, cM, rfl, hL, -, ho⟩
  have HLb := Lib.hid hL
  have HNb := Lib.hid (hq.out ▸ (hL.nv hy.out (by have := hq.out; omega)) : NV w6 (.slice (some ⟨gM, 0, none⟩) q cM) (val ys))
  replace HX := Lib.hid (HX.out.only ho)
  replace HY := Lib.hid (HY.out.only ho)
  replace HNa := Lib.hid (HNa.out.only ho)
  replace HLa := Lib.hid (HLa.out.only ho (by simp))
  have HO6 := Lib.hid (HO5.out.nil_trans ho)
  clear hL ho
  rw [hva.out] at HNa
  rw [hvb.out] at HNb
  have HlyF : Hid (ly = (R.limbsOf M).length) := HY.out.form
  have hok : decide (M ≠ 0) = true := decide_eq_true (by have := hM.out; omega)
  have hly : (0 : Int) < (ly : Int) := by
    have h1 : (R.limbsOf M).length ≠ 0 := fun h => by rw [R.limbsOf_len0] at h; have := hM.out; omega
    have := HlyF.out; omega
  have his : decide (M ≤ N) = true := decide_eq_true hN.out
  obtain ⟨cz, hcz⟩ : ∃ cz, cmpZ N M = cz := ⟨_, rfl⟩
  have hcz0 : (0 : Int) ≤ cz := by
    rw [← hcz]; unfold cmpZ; have := hN.out; (repeat' split) <;> omega
  go_wp2_with fail
  have HK := Lib.hid (Kp.start w6)
  go_loopw [12] (fun i wr => ∃ (j : Nat) (K : KL), j ≤ 2 ∧ i = .int .i64 (j : Int) ∧ K.length = 6 * j ∧ Kp w6 wr w6.heap.size K []) (fun i _ => 2 - (intOf i).toNat)
  case atStart => exact ⟨0, [], Nat.zero_le _, rfl, rfl, HK.out⟩
  case round =>
    obtain ⟨j, K, hj, rfl, hKl', hK⟩ := hrel
    replace HK := Lib.hid hK
    have hKl := Lib.hid hKl'
    have hKn : K.length ≤ 12 := by omega
    clear hK hKl'
    by_cases hjl : j < 2
    · have hjl' : (j : Int) < 2 := by omega
      go_wp2_with fail
      refine (of_v (Lib.hid (HNa.out.only HK.out.only))).mono ?_
      rintro e u1 ⟨A1, k1, c1, rfl, hr, -, ho⟩
      replace HK := Lib.hid (HK.out.push hr ho HlN.out)
      clear hr ho
      go_wp2_with fail
      refine (add2_v (Lib.hid (HNa.out.only HK.out.only)) (Lib.hid (HNb.out.only HK.out.only)) HFs).mono ?_
      rintro e u2 ⟨A2, k2, c2, rfl, hr, -, ho⟩
      replace HK := Lib.hid (HK.out.push hr ho HlS.out)
      clear hr ho
      go_wp2_with fail
      refine (mul_v cut (Lib.hid (HNa.out.only HK.out.only)) (Lib.hid (HNb.out.only HK.out.only)) HFm).mono ?_
      rintro e u3 ⟨A3, k3, c3, rfl, hr, -, ho⟩
      replace HK := Lib.hid (HK.out.push hr ho HlP.out)
      clear hr ho
      go_wp2_with fail
      refine (divMod_v (Lib.hid (HNa.out.only HK.out.only)) (Lib.hid (HNb.out.only HK.out.only))).mono ?_
      rintro e u4 ⟨A4, k4, c4, A5, k5, c5, _, _, rfl, rfl, rfl, hr1, hr2, -, -, hd, ho⟩
      rw [hok]
      replace HK := Lib.hid (HK.out.push2 hr1 hr2 hd ho HlQ.out HlR.out)
      clear hr1 hr2 hd ho
      go_wp2_with fail
      refine (sub_v (Lib.hid (HNa.out.only HK.out.only)) (Lib.hid (HNb.out.only HK.out.only))).mono ?_
      rintro e u5 ⟨A6, k6, c6, _, rfl, rfl, hr, -, ho⟩
      rw [his]
      replace HK := Lib.hid (HK.out.push hr ho HlD.out)
      clear hr ho
      replace HK : Hid (Kp w6 u5 w6.heap.size K [(.slice A1 k1 c1, N), (.slice A2 k2 c2, N + M), (.slice A3 k3 c3, N * M), (.slice A4 k4 c4, N / M), (.slice A5 k5 c5, if M = 0 then 0 else N % M), (.slice A6 k6 c6, N - M)]) := HK
      go_wp2_with fail
      refine (Kp.keep HK (by first | omega | (simp; omega))).mono ?_
      rintro e v1 ⟨rfl, hk⟩
      replace HK : Hid (Kp w6 v1 w6.heap.size (K ++ [(.slice A1 k1 c1, N)]) [(.slice A2 k2 c2, N + M), (.slice A3 k3 c3, N * M), (.slice A4 k4 c4, N / M), (.slice A5 k5 c5, if M = 0 then 0 else N % M), (.slice A6 k6 c6, N - M)]) := Lib.hid hk
      clear hk
      go_wp2_with fail
      refine (Kp.keep HK (by first | omega | (simp; omega))).mono ?_
      rintro e v2 ⟨rfl, hk⟩
      replace HK : Hid (Kp w6 v2 w6.heap.size (K ++ [(.slice A1 k1 c1, N)] ++ [(.slice A2 k2 c2, N + M)]) [(.slice A3 k3 c3, N * M), (.slice A4 k4 c4, N / M), (.slice A5 k5 c5, if M = 0 then 0 else N % M), (.slice A6 k6 c6, N - M)]) := Lib.hid hk
      clear hk
      go_wp2_with fail
      refine (Kp.keep HK (by first | omega | (simp; omega))).mono ?_
      rintro e v3 ⟨rfl, hk⟩
      replace HK : Hid (Kp w6 v3 w6.heap.size (K ++ [(.slice A1 k1 c1, N)] ++ [(.slice A2 k2 c2, N + M)] ++ [(.slice A3 k3 c3, N * M)]) [(.slice A4 k4 c4, N / M), (.slice A5 k5 c5, if M = 0 then 0 else N % M), (.slice A6 k6 c6, N - M)]) := Lib.hid hk
      clear hk
      go_wp2_with fail
      refine (Kp.keep HK (by first | omega | (simp; omega))).mono ?_
      rintro e v4 ⟨rfl, hk⟩
      replace HK : Hid (Kp w6 v4 w6.heap.size (K ++ [(.slice A1 k1 c1, N)] ++ [(.slice A2 k2 c2, N + M)] ++ [(.slice A3 k3 c3, N * M)] ++ [(.slice A4 k4 c4, N / M)]) [(.slice A5 k5 c5, if M = 0 then 0 else N % M), (.slice A6 k6 c6, N - M)]) := Lib.hid hk
      clear hk
      go_wp2_with fail
      refine (Kp.keep HK (by first | omega | (simp; omega))).mono ?_
      rintro e v5 ⟨rfl, hk⟩
      replace HK : Hid (Kp w6 v5 w6.heap.size (K ++ [(.slice A1 k1 c1, N)] ++ [(.slice A2 k2 c2, N + M)] ++ [(.slice A3 k3 c3, N * M)] ++ [(.slice A4 k4 c4, N / M)] ++ [(.slice A5 k5 c5, if M = 0 then 0 else N % M)]) [(.slice A6 k6 c6, N - M)]) := Lib.hid hk
      clear hk
      go_wp2_with fail
      refine (Kp.keep HK (by first | omega | (simp; omega))).mono ?_
      rintro e v6 ⟨rfl, hk⟩
      replace HK : Hid (Kp w6 v6 w6.heap.size (K ++ [(.slice A1 k1 c1, N)] ++ [(.slice A2 k2 c2, N + M)] ++ [(.slice A3 k3 c3, N * M)] ++ [(.slice A4 k4 c4, N / M)] ++ [(.slice A5 k5 c5, if M = 0 then 0 else N % M)] ++ [(.slice A6 k6 c6, N - M)]) []) := Lib.hid hk
      clear hk
      go_wp2_with fail
      go_wp2_with fail
      refine (cmp_v (Lib.hid (HNa.out.only HK.out.only)) (Lib.hid (HNb.out.only HK.out.only))).mono ?_
      rintro e x1 ⟨rfl, ho⟩
      replace HK := Lib.hid (HK.out.step ho)
      clear ho
      rw [hcz]
      go_wp2_with fail
      refine (rcmp_v (Lib.hid (HX.out.only HK.out.only)) (Lib.hid (HY.out.only HK.out.only)) HFN HFM).mono ?_
      rintro e x2 ⟨rfl, ho⟩
      replace HK := Lib.hid (HK.out.step ho)
      clear ho
      rw [hcz]
      go_wp2_with fail
      have hv := HX.out.only HK.out.only
      refine (is_nv (n := N) (Lib.hid (HK.out.nv (u := .slice A1 k1 c1) (n := N) (by simp))) (Lib.hid (HK.out.form (A := A1) (k := k1) (c := c1) (n := N) (by simp))) (Lib.hid hv) HFN).mono ?_
      clear hv
      rintro e x3 ⟨rfl, ho⟩
      rw [decide_eq_true rfl]
      replace HK := Lib.hid (HK.out.step ho)
      clear ho
      go_wp2_with fail
      refine (radd_v (Lib.hid (HX.out.only HK.out.only)) (Lib.hid (HY.out.only HK.out.only)) HFN HFM).mono ?_
      rintro e x4 ⟨Bx4, lx4, dx4, rfl, hv, -, ho⟩
      replace HK := Lib.hid (HK.out.step ho)
      clear ho
      go_wp2_with fail
      refine (is_nv (n := N + M) (Lib.hid (HK.out.nv (u := .slice A2 k2 c2) (n := N + M) (by simp))) (Lib.hid (HK.out.form (A := A2) (k := k2) (c := c2) (n := N + M) (by simp))) (Lib.hid hv) HFs).mono ?_
      clear hv
      rintro e x5 ⟨rfl, ho⟩
      rw [decide_eq_true rfl]
      replace HK := Lib.hid (HK.out.step ho)
      clear ho
      go_wp2_with fail
      refine (rmul_v (Lib.hid (HX.out.only HK.out.only)) (Lib.hid (HY.out.only HK.out.only)) HFN HFM).mono ?_
      rintro e x6 ⟨Bx6, lx6, dx6, rfl, hv, -, ho⟩
      replace HK := Lib.hid (HK.out.step ho)
      clear ho
      go_wp2_with fail
      refine (is_nv (n := N * M) (Lib.hid (HK.out.nv (u := .slice A3 k3 c3) (n := N * M) (by simp))) (Lib.hid (HK.out.form (A := A3) (k := k3) (c := c3) (n := N * M) (by simp))) (Lib.hid hv) HFm).mono ?_
      clear hv
      rintro e x7 ⟨rfl, ho⟩
      rw [decide_eq_true rfl]
      replace HK := Lib.hid (HK.out.step ho)
      clear ho
      go_wp2_with fail
      refine (rcmp_v (Lib.hid (HX.out.only HK.out.only)) (Lib.hid (HY.out.only HK.out.only)) HFN HFM).mono ?_
      rintro e x8 ⟨rfl, ho⟩
      replace HK := Lib.hid (HK.out.step ho)
      clear ho
      rw [hcz]
      go_wp2_with fail
      refine (rdivmod_v (Lib.hid (HX.out.only HK.out.only)) (Lib.hid (HY.out.only HK.out.only)) HFN HFM (by have := hM.out; omega)).mono ?_
      rintro e x9 ⟨Bq, lq, dq, Br, lr, dr, rfl, hv, hv2, -, ho⟩
      replace HK := Lib.hid (HK.out.step ho)
      clear ho
      have HV2 : Hid (RV x9 (.slice Br lr dr) (N % M)) := hv2
      clear hv2
      go_wp2_with fail
      refine (is_nv (n := N / M) (Lib.hid (HK.out.nv (u := .slice A4 k4 c4) (n := N / M) (by simp))) (Lib.hid (HK.out.form (A := A4) (k := k4) (c := c4) (n := N / M) (by simp))) (Lib.hid hv) HFq).mono ?_
      clear hv
      rintro e x10 ⟨rfl, ho⟩
      rw [decide_eq_true rfl]
      replace HK := Lib.hid (HK.out.step ho)
      replace HV2 := Lib.hid (HV2.out.only ho)
      clear ho
      go_wp2_with fail
      have hv := HV2.out
      clear HV2
      have hif : (if M = 0 then 0 else N % M) = N % M := if_neg (by have := hM.out; omega)
      rw [← hif] at hv
      clear hif
      refine (is_nv (n := (if M = 0 then 0 else N % M)) (Lib.hid (HK.out.nv (u := .slice A5 k5 c5) (n := (if M = 0 then 0 else N % M)) (by simp))) (Lib.hid (HK.out.form (A := A5) (k := k5) (c := c5) (n := (if M = 0 then 0 else N % M)) (by simp))) (Lib.hid hv) HFr).mono ?_
      clear hv
      rintro e x11 ⟨rfl, ho⟩
      rw [decide_eq_true rfl]
      replace HK := Lib.hid (HK.out.step ho)
      clear ho
      go_wp2_with fail
      refine (rsub_v (Lib.hid (HX.out.only HK.out.only)) (Lib.hid (HY.out.only HK.out.only)) HFN hN).mono ?_
      rintro e x12 ⟨Bx12, lx12, dx12, rfl, hv, -, ho⟩
      replace HK := Lib.hid (HK.out.step ho)
      clear ho
      go_wp2_with fail
      refine (is_nv (n := N - M) (Lib.hid (HK.out.nv (u := .slice A6 k6 c6) (n := N - M) (by simp))) (Lib.hid (HK.out.form (A := A6) (k := k6) (c := c6) (n := N - M) (by simp))) (Lib.hid hv) HFd).mono ?_
      clear hv
      rintro e x13 ⟨rfl, ho⟩
      rw [decide_eq_true rfl]
      replace HK := Lib.hid (HK.out.step ho)
      clear ho
      go_wp2_with fail
      go_roundw
      case rel => exact ⟨j + 1, _, by omega, by go_num, by simp [hKl.out]; omega, HK.out⟩
      case measure => simp [intOf]; omega
    · have hnl : ¬ (j : Int) < 2 := by omega
      go_wp2_with fail
      refine (stays_any gL p cL c A xs _ (Lib.hid (HLa.out.only HK.out.only (by simp))) (Lib.hid (hr.out.only (HO6.out.nil_trans HK.out.only))) hp (by omega)).mono ?_
      rintro e y1 ⟨rfl, ho⟩
      replace HK := Lib.hid (HK.out.step ho)
      clear ho
      go_wp2_with fail
      refine (stays_any gM q cM d B ys _ (Lib.hid (HLb.out.only HK.out.only (by simp))) (Lib.hid (hs.out.only (HO6.out.nil_trans HK.out.only))) hq (by omega)).mono ?_
      rintro e y2 ⟨rfl, ho⟩
      replace HK := Lib.hid (HK.out.step ho)
      clear ho
      go_wp2_with fail
      refine (Kp.apart HK (by omega)).mono ?_
      rintro e y3 ⟨rfl, ho⟩
      have HO7 := Lib.hid (HO6.out.nil_trans ho)
      clear ho
      go_wp2_with fail
      go_ret
      exact ⟨rfl, HO7.out⟩
set_option maxHeartbeats 12800000 in
set_option maxRecDepth 100000 in
theorem ntells_10 (A B : Option Addr) (p c q d N M : Nat) (xs ys : List Nat) (cut : Int) (w : World) (htab : Hid (Tab w)) (HL : Hid (lightB [⟨A, p, c⟩, ⟨B, q, d⟩] = true)) (hr : Hid (LRead w A xs)) (hx : Hid (Limb xs)) (hp : Hid (p = xs.length)) (hpc : p ≤ c) (hp40 : p ≤ 40) (hva : Hid (val xs = N))
    (hs : Hid (LRead w B ys)) (hy : Hid (Limb ys)) (hq : Hid (q = ys.length)) (hqd : q ≤ d) (hq40 : q ≤ 40) (hvb : Hid (val ys = M)) (hn40 : Hid (Lim N 40)) (hm40 : Hid (Lim M 40)) (hM : Hid (M ≠ 0)) (hN : Hid (¬ M ≤ N)) :
    Calls Tryz.prog 3 #[.slice A p c, .slice B q d, .int .i64 cut] w fun e w' => e = .returned (.bool true) ∧ Only [] w w' := by
  have ha : Hid (NV w (.slice A p c) N) := by
    have h := NV.mk (w := w) (c := c) ⟨hr.out, hx.out, by have := hp.out; omega⟩ (by have := hp.out; omega) (by have := hp.out; omega)
    rw [hva.out, ← hp.out] at h
    exact h
  have hb : Hid (NV w (.slice B q d) M) := by
    have h := NV.mk (w := w) (c := d) ⟨hs.out, hy.out, by have := hq.out; omega⟩ (by have := hq.out; omega) (by have := hq.out; omega)
    rw [hvb.out, ← hq.out] at h
    exact h
  have HFN : Hid (Few N) := hn40.out.few (by omega)
  have HFM : Hid (Few M) := hm40.out.few (by omega)
  have HLs : Hid (Lim (N + M) 81) := hn40.out.add hm40.out
  have HLm : Hid (Lim (N * M) 80) := hn40.out.mul hm40.out
  have HLr : Hid (Lim (if M = 0 then 0 else N % M) 40) := hn40.out.le (by split; omega; exact Nat.mod_le _ _)
  have HFs : Hid (Few (N + M)) := HLs.out.few (by omega)
  have HFm : Hid (Few (N * M)) := HLm.out.few (by omega)
  have HFq : Hid (Few (N / M)) := HFN.out.le (Nat.div_le_self _ _)
  have HFr : Hid (Few (if M = 0 then 0 else N % M)) := HLr.out.few (by omega)
  have HFd : Hid (Few (N - M)) := HFN.out.le (Nat.sub_le _ _)
  have HlN : Hid ((limbsOf N).length ≤ 700) := NV.few_len hn40.out (by omega)
  have HlS : Hid ((limbsOf (N + M)).length ≤ 700) := NV.few_len HLs.out (by omega)
  have HlP : Hid ((limbsOf (N * M)).length ≤ 700) := NV.few_len HLm.out (by omega)
  have HlQ : Hid ((limbsOf (N / M)).length ≤ 700) := NV.few_len (hn40.out.le (Nat.div_le_self _ _)) (by omega)
  have HlR : Hid ((limbsOf (if M = 0 then 0 else N % M)).length ≤ 700) := NV.few_len HLr.out (by omega)
  have HlD : Hid ((limbsOf (N - M)).length ≤ 700) := NV.few_len (hn40.out.le (Nat.sub_le _ _)) (by omega)
  go_enter Tryz.func3, Tryz.ntmps3
  go_wp2_with fail
  refine (light_v [⟨A, p, c⟩, ⟨B, q, d⟩] 2 (Lib.hid rfl) (by omega)).mono ?_
  rintro e w1 ⟨rfl, ho1⟩
  rw [HL.out]
  have HO1 := Lib.hid ho1
  clear ho1
  go_wp2_with fail
  refine (alive1_any w1 (Lib.hid (htab.out.only HO1.out))).mono ?_
  rintro e w2 ⟨rfl, ho2⟩
  have HO2 := Lib.hid (HO1.out.nil_trans ho2)
  clear ho2
  go_wp2_with fail
  refine (from_v (Lib.hid (ha.out.only HO2.out))).mono ?_
  rintro e w3 ⟨X, lx, dx, rfl, hv, -, ho⟩
  have HX := Lib.hid hv
  have HO3 := Lib.hid (HO2.out.nil_trans ho)
  clear hv ho
  go_wp2_with fail
  refine (from_v (Lib.hid (hb.out.only HO3.out))).mono ?_
  rintro e w4 ⟨Y, ly, dy, rfl, hv, -, ho⟩
  replace HX := Lib.hid (HX.out.only ho)
  have HY := Lib.hid hv
  have HO4 := Lib.hid (HO3.out.nil_trans ho)
  clear hv ho
  go_wp2_with fail
  refine (lent_any A p c xs w4 (Lib.hid (hr.out.only HO4.out)) hp (by omega)).mono ?_
  rintro e w5 ⟨gL, cL, rfl, hL, -, ho⟩
  have HLa := Lib.hid hL
  have HNa := Lib.hid (hp.out ▸ (hL.nv hx.out (by have := hp.out; omega)) : NV w5 (.slice (some ⟨gL, 0, none⟩) p cL) (val xs))
  replace HX := Lib.hid (HX.out.only ho)
  replace HY := Lib.hid (HY.out.only ho)
  have HO5 := Lib.hid (HO4.out.nil_trans ho)
  clear hL ho
  go_wp2_with fail
  refine (lent_any B q d ys w5 (Lib.hid (hs.out.only HO5.out)) hq (by omega)).mono ?_
  rintro e w6 ⟨gM, cM, rfl, hL, -, ho⟩
  have HLb := Lib.hid hL
  have HNb := Lib.hid (hq.out ▸ (hL.nv hy.out (by have := hq.out; omega)) : NV w6 (.slice (some ⟨gM, 0, none⟩) q cM) (val ys))
  replace HX := Lib.hid (HX.out.only ho)
  replace HY := Lib.hid (HY.out.only ho)
  replace HNa := Lib.hid (HNa.out.only ho)
  replace HLa := Lib.hid (HLa.out.only ho (by simp))
  have HO6 := Lib.hid (HO5.out.nil_trans ho)
  clear hL ho
  rw [hva.out] at HNa
  rw [hvb.out] at HNb
  have HlyF : Hid (ly = (R.limbsOf M).length) := HY.out.form
  have hok : decide (M ≠ 0) = true := decide_eq_true (by have := hM.out; omega)
  have hly : (0 : Int) < (ly : Int) := by
    have h1 : (R.limbsOf M).length ≠ 0 := fun h => by rw [R.limbsOf_len0] at h; have := hM.out; omega
    have := HlyF.out; omega
  have his : decide (M ≤ N) = false := decide_eq_false hN.out
  obtain ⟨cz, hcz⟩ : ∃ cz, cmpZ N M = cz := ⟨_, rfl⟩
  have hcz0 : ¬ (0 : Int) ≤ cz := by
    rw [← hcz]; unfold cmpZ; have := hN.out; (repeat' split) <;> omega
  go_wp2_with fail
  have HK := Lib.hid (Kp.start w6)
  go_loopw [12] (fun i wr => ∃ (j : Nat) (K : KL), j ≤ 2 ∧ i = .int .i64 (j : Int) ∧ K.length = 6 * j ∧ Kp w6 wr w6.heap.size K []) (fun i _ => 2 - (intOf i).toNat)
  case atStart => exact ⟨0, [], Nat.zero_le _, rfl, rfl, HK.out⟩
  case round =>
    obtain ⟨j, K, hj, rfl, hKl', hK⟩ := hrel
    replace HK := Lib.hid hK
    have hKl := Lib.hid hKl'
    have hKn : K.length ≤ 12 := by omega
    clear hK hKl'
    by_cases hjl : j < 2
    · have hjl' : (j : Int) < 2 := by omega
      go_wp2_with fail
      refine (of_v (Lib.hid (HNa.out.only HK.out.only))).mono ?_
      rintro e u1 ⟨A1, k1, c1, rfl, hr, -, ho⟩
      replace HK := Lib.hid (HK.out.push hr ho HlN.out)
      clear hr ho
      go_wp2_with fail
      refine (add2_v (Lib.hid (HNa.out.only HK.out.only)) (Lib.hid (HNb.out.only HK.out.only)) HFs).mono ?_
      rintro e u2 ⟨A2, k2, c2, rfl, hr, -, ho⟩
      replace HK := Lib.hid (HK.out.push hr ho HlS.out)
      clear hr ho
      go_wp2_with fail
      refine (mul_v cut (Lib.hid (HNa.out.only HK.out.only)) (Lib.hid (HNb.out.only HK.out.only)) HFm).mono ?_
      rintro e u3 ⟨A3, k3, c3, rfl, hr, -, ho⟩
      replace HK := Lib.hid (HK.out.push hr ho HlP.out)
      clear hr ho
      go_wp2_with fail
      refine (divMod_v (Lib.hid (HNa.out.only HK.out.only)) (Lib.hid (HNb.out.only HK.out.only))).mono ?_
      rintro e u4 ⟨A4, k4, c4, A5, k5, c5, _, _, rfl, rfl, rfl, hr1, hr2, -, -, hd, ho⟩
      rw [hok]
      replace HK := Lib.hid (HK.out.push2 hr1 hr2 hd ho HlQ.out HlR.out)
      clear hr1 hr2 hd ho
      go_wp2_with fail
      refine (sub_v (Lib.hid (HNa.out.only HK.out.only)) (Lib.hid (HNb.out.only HK.out.only))).mono ?_
      rintro e u5 ⟨A6, k6, c6, _, rfl, rfl, hr, -, ho⟩
      rw [his]
      replace HK := Lib.hid (HK.out.push hr ho HlD.out)
      clear hr ho
      replace HK : Hid (Kp w6 u5 w6.heap.size K [(.slice A1 k1 c1, N), (.slice A2 k2 c2, N + M), (.slice A3 k3 c3, N * M), (.slice A4 k4 c4, N / M), (.slice A5 k5 c5, if M = 0 then 0 else N % M), (.slice A6 k6 c6, N - M)]) := HK
      go_wp2_with fail
      refine (Kp.keep HK (by first | omega | (simp; omega))).mono ?_
      rintro e v1 ⟨rfl, hk⟩
      replace HK : Hid (Kp w6 v1 w6.heap.size (K ++ [(.slice A1 k1 c1, N)]) [(.slice A2 k2 c2, N + M), (.slice A3 k3 c3, N * M), (.slice A4 k4 c4, N / M), (.slice A5 k5 c5, if M = 0 then 0 else N % M), (.slice A6 k6 c6, N - M)]) := Lib.hid hk
      clear hk
      go_wp2_with fail
      refine (Kp.keep HK (by first | omega | (simp; omega))).mono ?_
      rintro e v2 ⟨rfl, hk⟩
      replace HK : Hid (Kp w6 v2 w6.heap.size (K ++ [(.slice A1 k1 c1, N)] ++ [(.slice A2 k2 c2, N + M)]) [(.slice A3 k3 c3, N * M), (.slice A4 k4 c4, N / M), (.slice A5 k5 c5, if M = 0 then 0 else N % M), (.slice A6 k6 c6, N - M)]) := Lib.hid hk
      clear hk
      go_wp2_with fail
      refine (Kp.keep HK (by first | omega | (simp; omega))).mono ?_
      rintro e v3 ⟨rfl, hk⟩
      replace HK : Hid (Kp w6 v3 w6.heap.size (K ++ [(.slice A1 k1 c1, N)] ++ [(.slice A2 k2 c2, N + M)] ++ [(.slice A3 k3 c3, N * M)]) [(.slice A4 k4 c4, N / M), (.slice A5 k5 c5, if M = 0 then 0 else N % M), (.slice A6 k6 c6, N - M)]) := Lib.hid hk
      clear hk
      go_wp2_with fail
      refine (Kp.keep HK (by first | omega | (simp; omega))).mono ?_
      rintro e v4 ⟨rfl, hk⟩
      replace HK : Hid (Kp w6 v4 w6.heap.size (K ++ [(.slice A1 k1 c1, N)] ++ [(.slice A2 k2 c2, N + M)] ++ [(.slice A3 k3 c3, N * M)] ++ [(.slice A4 k4 c4, N / M)]) [(.slice A5 k5 c5, if M = 0 then 0 else N % M), (.slice A6 k6 c6, N - M)]) := Lib.hid hk
      clear hk
      go_wp2_with fail
      refine (Kp.keep HK (by first | omega | (simp; omega))).mono ?_
      rintro e v5 ⟨rfl, hk⟩
      replace HK : Hid (Kp w6 v5 w6.heap.size (K ++ [(.slice A1 k1 c1, N)] ++ [(.slice A2 k2 c2, N + M)] ++ [(.slice A3 k3 c3, N * M)] ++ [(.slice A4 k4 c4, N / M)] ++ [(.slice A5 k5 c5, if M = 0 then 0 else N % M)]) [(.slice A6 k6 c6, N - M)]) := Lib.hid hk
      clear hk
      go_wp2_with fail
      refine (Kp.keep HK (by first | omega | (simp; omega))).mono ?_
      rintro e v6 ⟨rfl, hk⟩
      replace HK : Hid (Kp w6 v6 w6.heap.size (K ++ [(.slice A1 k1 c1, N)] ++ [(.slice A2 k2 c2, N + M)] ++ [(.slice A3 k3 c3, N * M)] ++ [(.slice A4 k4 c4, N / M)] ++ [(.slice A5 k5 c5, if M = 0 then 0 else N % M)] ++ [(.slice A6 k6 c6, N - M)]) []) := Lib.hid hk
      clear hk
      go_wp2_with fail
      have hk6 : k6 = 0 := by
        have h1 := HK.out.form (A := A6) (k := k6) (c := c6) (n := N - M) (by simp)
        rwa [Nat.sub_eq_zero_of_le (by have := hN.out; omega), limbsOf_zero] at h1
      subst hk6
      go_wp2_with fail
      refine (cmp_v (Lib.hid (HNa.out.only HK.out.only)) (Lib.hid (HNb.out.only HK.out.only))).mono ?_
      rintro e x1 ⟨rfl, ho⟩
      replace HK := Lib.hid (HK.out.step ho)
      clear ho
      rw [hcz]
      go_wp2_with fail
      refine (rcmp_v (Lib.hid (HX.out.only HK.out.only)) (Lib.hid (HY.out.only HK.out.only)) HFN HFM).mono ?_
      rintro e x2 ⟨rfl, ho⟩
      replace HK := Lib.hid (HK.out.step ho)
      clear ho
      rw [hcz]
      go_wp2_with fail
      have hv := HX.out.only HK.out.only
      refine (is_nv (n := N) (Lib.hid (HK.out.nv (u := .slice A1 k1 c1) (n := N) (by simp))) (Lib.hid (HK.out.form (A := A1) (k := k1) (c := c1) (n := N) (by simp))) (Lib.hid hv) HFN).mono ?_
      clear hv
      rintro e x3 ⟨rfl, ho⟩
      rw [decide_eq_true rfl]
      replace HK := Lib.hid (HK.out.step ho)
      clear ho
      go_wp2_with fail
      refine (radd_v (Lib.hid (HX.out.only HK.out.only)) (Lib.hid (HY.out.only HK.out.only)) HFN HFM).mono ?_
      rintro e x4 ⟨Bx4, lx4, dx4, rfl, hv, -, ho⟩
      replace HK := Lib.hid (HK.out.step ho)
      clear ho
      go_wp2_with fail
      refine (is_nv (n := N + M) (Lib.hid (HK.out.nv (u := .slice A2 k2 c2) (n := N + M) (by simp))) (Lib.hid (HK.out.form (A := A2) (k := k2) (c := c2) (n := N + M) (by simp))) (Lib.hid hv) HFs).mono ?_
      clear hv
      rintro e x5 ⟨rfl, ho⟩
      rw [decide_eq_true rfl]
      replace HK := Lib.hid (HK.out.step ho)
      clear ho
      go_wp2_with fail
      refine (rmul_v (Lib.hid (HX.out.only HK.out.only)) (Lib.hid (HY.out.only HK.out.only)) HFN HFM).mono ?_
      rintro e x6 ⟨Bx6, lx6, dx6, rfl, hv, -, ho⟩
      replace HK := Lib.hid (HK.out.step ho)
      clear ho
      go_wp2_with fail
      refine (is_nv (n := N * M) (Lib.hid (HK.out.nv (u := .slice A3 k3 c3) (n := N * M) (by simp))) (Lib.hid (HK.out.form (A := A3) (k := k3) (c := c3) (n := N * M) (by simp))) (Lib.hid hv) HFm).mono ?_
      clear hv
      rintro e x7 ⟨rfl, ho⟩
      rw [decide_eq_true rfl]
      replace HK := Lib.hid (HK.out.step ho)
      clear ho
      go_wp2_with fail
      refine (rcmp_v (Lib.hid (HX.out.only HK.out.only)) (Lib.hid (HY.out.only HK.out.only)) HFN HFM).mono ?_
      rintro e x8 ⟨rfl, ho⟩
      replace HK := Lib.hid (HK.out.step ho)
      clear ho
      rw [hcz]
      go_wp2_with fail
      refine (rdivmod_v (Lib.hid (HX.out.only HK.out.only)) (Lib.hid (HY.out.only HK.out.only)) HFN HFM (by have := hM.out; omega)).mono ?_
      rintro e x9 ⟨Bq, lq, dq, Br, lr, dr, rfl, hv, hv2, -, ho⟩
      replace HK := Lib.hid (HK.out.step ho)
      clear ho
      have HV2 : Hid (RV x9 (.slice Br lr dr) (N % M)) := hv2
      clear hv2
      go_wp2_with fail
      refine (is_nv (n := N / M) (Lib.hid (HK.out.nv (u := .slice A4 k4 c4) (n := N / M) (by simp))) (Lib.hid (HK.out.form (A := A4) (k := k4) (c := c4) (n := N / M) (by simp))) (Lib.hid hv) HFq).mono ?_
      clear hv
      rintro e x10 ⟨rfl, ho⟩
      rw [decide_eq_true rfl]
      replace HK := Lib.hid (HK.out.step ho)
      replace HV2 := Lib.hid (HV2.out.only ho)
      clear ho
      go_wp2_with fail
      have hv := HV2.out
      clear HV2
      have hif : (if M = 0 then 0 else N % M) = N % M := if_neg (by have := hM.out; omega)
      rw [← hif] at hv
      clear hif
      refine (is_nv (n := (if M = 0 then 0 else N % M)) (Lib.hid (HK.out.nv (u := .slice A5 k5 c5) (n := (if M = 0 then 0 else N % M)) (by simp))) (Lib.hid (HK.out.form (A := A5) (k := k5) (c := c5) (n := (if M = 0 then 0 else N % M)) (by simp))) (Lib.hid hv) HFr).mono ?_
      clear hv
      rintro e x11 ⟨rfl, ho⟩
      rw [decide_eq_true rfl]
      replace HK := Lib.hid (HK.out.step ho)
      clear ho
      go_wp2_with fail
      go_roundw
      case rel => exact ⟨j + 1, _, by omega, by go_num, by simp [hKl.out]; omega, HK.out⟩
      case measure => simp [intOf]; omega
    · have hnl : ¬ (j : Int) < 2 := by omega
      go_wp2_with fail
      refine (stays_any gL p cL c A xs _ (Lib.hid (HLa.out.only HK.out.only (by simp))) (Lib.hid (hr.out.only (HO6.out.nil_trans HK.out.only))) hp (by omega)).mono ?_
      rintro e y1 ⟨rfl, ho⟩
      replace HK := Lib.hid (HK.out.step ho)
      clear ho
      go_wp2_with fail
      refine (stays_any gM q cM d B ys _ (Lib.hid (HLb.out.only HK.out.only (by simp))) (Lib.hid (hs.out.only (HO6.out.nil_trans HK.out.only))) hq (by omega)).mono ?_
      rintro e y2 ⟨rfl, ho⟩
      replace HK := Lib.hid (HK.out.step ho)
      clear ho
      go_wp2_with fail
      refine (Kp.apart HK (by omega)).mono ?_
      rintro e y3 ⟨rfl, ho⟩
      have HO7 := Lib.hid (HO6.out.nil_trans ho)
      clear ho
      go_wp2_with fail
      go_ret
      exact ⟨rfl, HO7.out⟩
set_option maxHeartbeats 12800000 in
set_option maxRecDepth 100000 in
theorem ntells_01 (A B : Option Addr) (p c q d N M : Nat) (xs ys : List Nat) (cut : Int) (w : World) (htab : Hid (Tab w)) (HL : Hid (lightB [⟨A, p, c⟩, ⟨B, q, d⟩] = true)) (hr : Hid (LRead w A xs)) (hx : Hid (Limb xs)) (hp : Hid (p = xs.length)) (hpc : p ≤ c) (hp40 : p ≤ 40) (hva : Hid (val xs = N))
    (hs : Hid (LRead w B ys)) (hy : Hid (Limb ys)) (hq : Hid (q = ys.length)) (hqd : q ≤ d) (hq40 : q ≤ 40) (hvb : Hid (val ys = M)) (hn40 : Hid (Lim N 40)) (hm40 : Hid (Lim M 40)) (hM : Hid (M = 0)) (hN : Hid (M ≤ N)) :
    Calls Tryz.prog 3 #[.slice A p c, .slice B q d, .int .i64 cut] w fun e w' => e = .returned (.bool true) ∧ Only [] w w' := by
  have ha : Hid (NV w (.slice A p c) N) := by
    have h := NV.mk (w := w) (c := c) ⟨hr.out, hx.out, by have := hp.out; omega⟩ (by have := hp.out; omega) (by have := hp.out; omega)
    rw [hva.out, ← hp.out] at h
    exact h
  have hb : Hid (NV w (.slice B q d) M) := by
    have h := NV.mk (w := w) (c := d) ⟨hs.out, hy.out, by have := hq.out; omega⟩ (by have := hq.out; omega) (by have := hq.out; omega)
    rw [hvb.out, ← hq.out] at h
    exact h
  have HFN : Hid (Few N) := hn40.out.few (by omega)
  have HFM : Hid (Few M) := hm40.out.few (by omega)
  have HLs : Hid (Lim (N + M) 81) := hn40.out.add hm40.out
  have HLm : Hid (Lim (N * M) 80) := hn40.out.mul hm40.out
  have HLr : Hid (Lim (if M = 0 then 0 else N % M) 40) := hn40.out.le (by split; omega; exact Nat.mod_le _ _)
  have HFs : Hid (Few (N + M)) := HLs.out.few (by omega)
  have HFm : Hid (Few (N * M)) := HLm.out.few (by omega)
  have HFq : Hid (Few (N / M)) := HFN.out.le (Nat.div_le_self _ _)
  have HFr : Hid (Few (if M = 0 then 0 else N % M)) := HLr.out.few (by omega)
  have HFd : Hid (Few (N - M)) := HFN.out.le (Nat.sub_le _ _)
  have HlN : Hid ((limbsOf N).length ≤ 700) := NV.few_len hn40.out (by omega)
  have HlS : Hid ((limbsOf (N + M)).length ≤ 700) := NV.few_len HLs.out (by omega)
  have HlP : Hid ((limbsOf (N * M)).length ≤ 700) := NV.few_len HLm.out (by omega)
  have HlQ : Hid ((limbsOf (N / M)).length ≤ 700) := NV.few_len (hn40.out.le (Nat.div_le_self _ _)) (by omega)
  have HlR : Hid ((limbsOf (if M = 0 then 0 else N % M)).length ≤ 700) := NV.few_len HLr.out (by omega)
  have HlD : Hid ((limbsOf (N - M)).length ≤ 700) := NV.few_len (hn40.out.le (Nat.sub_le _ _)) (by omega)
  go_enter Tryz.func3, Tryz.ntmps3
  go_wp2_with fail
  refine (light_v [⟨A, p, c⟩, ⟨B, q, d⟩] 2 (Lib.hid rfl) (by omega)).mono ?_
  rintro e w1 ⟨rfl, ho1⟩
  rw [HL.out]
  have HO1 := Lib.hid ho1
  clear ho1
  go_wp2_with fail
  refine (alive1_any w1 (Lib.hid (htab.out.only HO1.out))).mono ?_
  rintro e w2 ⟨rfl, ho2⟩
  have HO2 := Lib.hid (HO1.out.nil_trans ho2)
  clear ho2
  go_wp2_with fail
  refine (from_v (Lib.hid (ha.out.only HO2.out))).mono ?_
  rintro e w3 ⟨X, lx, dx, rfl, hv, -, ho⟩
  have HX := Lib.hid hv
  have HO3 := Lib.hid (HO2.out.nil_trans ho)
  clear hv ho
  go_wp2_with fail
  refine (from_v (Lib.hid (hb.out.only HO3.out))).mono ?_
  rintro e w4 ⟨Y, ly, dy, rfl, hv, -, ho⟩
  replace HX := Lib.hid (HX.out.only ho)
  have HY := Lib.hid hv
  have HO4 := Lib.hid (HO3.out.nil_trans ho)
  clear hv ho
  go_wp2_with fail
  refine (lent_any A p c xs w4 (Lib.hid (hr.out.only HO4.out)) hp (by omega)).mono ?_
  rintro e w5 ⟨gL, cL, rfl, hL, -, ho⟩
  have HLa := Lib.hid hL
  have HNa := Lib.hid (hp.out ▸ (hL.nv hx.out (by have := hp.out; omega)) : NV w5 (.slice (some ⟨gL, 0, none⟩) p cL) (val xs))
  replace HX := Lib.hid (HX.out.only ho)
  replace HY := Lib.hid (HY.out.only ho)
  have HO5 := Lib.hid (HO4.out.nil_trans ho)
  clear hL ho
  go_wp2_with fail
  refine (lent_any B q d ys w5 (Lib.hid (hs.out.only HO5.out)) hq (by omega)).mono ?_
  rintro e w6 ⟨gM, cM, rfl, hL, -, ho⟩
  have HLb := Lib.hid hL
  have HNb := Lib.hid (hq.out ▸ (hL.nv hy.out (by have := hq.out; omega)) : NV w6 (.slice (some ⟨gM, 0, none⟩) q cM) (val ys))
  replace HX := Lib.hid (HX.out.only ho)
  replace HY := Lib.hid (HY.out.only ho)
  replace HNa := Lib.hid (HNa.out.only ho)
  replace HLa := Lib.hid (HLa.out.only ho (by simp))
  have HO6 := Lib.hid (HO5.out.nil_trans ho)
  clear hL ho
  rw [hva.out] at HNa
  rw [hvb.out] at HNb
  have HlyF : Hid (ly = (R.limbsOf M).length) := HY.out.form
  have hok : decide (M ≠ 0) = false := decide_eq_false (by have := hM.out; omega)
  obtain rfl : ly = 0 := by
    have h1 := HlyF.out
    rwa [hM.out, R.limbsOf_zero] at h1
  have his : decide (M ≤ N) = true := decide_eq_true hN.out
  obtain ⟨cz, hcz⟩ : ∃ cz, cmpZ N M = cz := ⟨_, rfl⟩
  have hcz0 : (0 : Int) ≤ cz := by
    rw [← hcz]; unfold cmpZ; have := hN.out; (repeat' split) <;> omega
  go_wp2_with fail
  have HK := Lib.hid (Kp.start w6)
  go_loopw [12] (fun i wr => ∃ (j : Nat) (K : KL), j ≤ 2 ∧ i = .int .i64 (j : Int) ∧ K.length = 6 * j ∧ Kp w6 wr w6.heap.size K []) (fun i _ => 2 - (intOf i).toNat)
  case atStart => exact ⟨0, [], Nat.zero_le _, rfl, rfl, HK.out⟩
  case round =>
    obtain ⟨j, K, hj, rfl, hKl', hK⟩ := hrel
    replace HK := Lib.hid hK
    have hKl := Lib.hid hKl'
    have hKn : K.length ≤ 12 := by omega
    clear hK hKl'
    by_cases hjl : j < 2
    · have hjl' : (j : Int) < 2 := by omega
      go_wp2_with fail
      refine (of_v (Lib.hid (HNa.out.only HK.out.only))).mono ?_
      rintro e u1 ⟨A1, k1, c1, rfl, hr, -, ho⟩
      replace HK := Lib.hid (HK.out.push hr ho HlN.out)
      clear hr ho
      go_wp2_with fail
      refine (add2_v (Lib.hid (HNa.out.only HK.out.only)) (Lib.hid (HNb.out.only HK.out.only)) HFs).mono ?_
      rintro e u2 ⟨A2, k2, c2, rfl, hr, -, ho⟩
      replace HK := Lib.hid (HK.out.push hr ho HlS.out)
      clear hr ho
      go_wp2_with fail
      refine (mul_v cut (Lib.hid (HNa.out.only HK.out.only)) (Lib.hid (HNb.out.only HK.out.only)) HFm).mono ?_
      rintro e u3 ⟨A3, k3, c3, rfl, hr, -, ho⟩
      replace HK := Lib.hid (HK.out.push hr ho HlP.out)
      clear hr ho
      go_wp2_with fail
      refine (divMod_v (Lib.hid (HNa.out.only HK.out.only)) (Lib.hid (HNb.out.only HK.out.only))).mono ?_
      rintro e u4 ⟨A4, k4, c4, A5, k5, c5, _, _, rfl, rfl, rfl, hr1, hr2, -, -, hd, ho⟩
      rw [hok]
      replace HK := Lib.hid (HK.out.push2 hr1 hr2 hd ho HlQ.out HlR.out)
      clear hr1 hr2 hd ho
      go_wp2_with fail
      refine (sub_v (Lib.hid (HNa.out.only HK.out.only)) (Lib.hid (HNb.out.only HK.out.only))).mono ?_
      rintro e u5 ⟨A6, k6, c6, _, rfl, rfl, hr, -, ho⟩
      rw [his]
      replace HK := Lib.hid (HK.out.push hr ho HlD.out)
      clear hr ho
      replace HK : Hid (Kp w6 u5 w6.heap.size K [(.slice A1 k1 c1, N), (.slice A2 k2 c2, N + M), (.slice A3 k3 c3, N * M), (.slice A4 k4 c4, N / M), (.slice A5 k5 c5, if M = 0 then 0 else N % M), (.slice A6 k6 c6, N - M)]) := HK
      go_wp2_with fail
      refine (Kp.keep HK (by first | omega | (simp; omega))).mono ?_
      rintro e v1 ⟨rfl, hk⟩
      replace HK : Hid (Kp w6 v1 w6.heap.size (K ++ [(.slice A1 k1 c1, N)]) [(.slice A2 k2 c2, N + M), (.slice A3 k3 c3, N * M), (.slice A4 k4 c4, N / M), (.slice A5 k5 c5, if M = 0 then 0 else N % M), (.slice A6 k6 c6, N - M)]) := Lib.hid hk
      clear hk
      go_wp2_with fail
      refine (Kp.keep HK (by first | omega | (simp; omega))).mono ?_
      rintro e v2 ⟨rfl, hk⟩
      replace HK : Hid (Kp w6 v2 w6.heap.size (K ++ [(.slice A1 k1 c1, N)] ++ [(.slice A2 k2 c2, N + M)]) [(.slice A3 k3 c3, N * M), (.slice A4 k4 c4, N / M), (.slice A5 k5 c5, if M = 0 then 0 else N % M), (.slice A6 k6 c6, N - M)]) := Lib.hid hk
      clear hk
      go_wp2_with fail
      refine (Kp.keep HK (by first | omega | (simp; omega))).mono ?_
      rintro e v3 ⟨rfl, hk⟩
      replace HK : Hid (Kp w6 v3 w6.heap.size (K ++ [(.slice A1 k1 c1, N)] ++ [(.slice A2 k2 c2, N + M)] ++ [(.slice A3 k3 c3, N * M)]) [(.slice A4 k4 c4, N / M), (.slice A5 k5 c5, if M = 0 then 0 else N % M), (.slice A6 k6 c6, N - M)]) := Lib.hid hk
      clear hk
      go_wp2_with fail
      refine (Kp.keep HK (by first | omega | (simp; omega))).mono ?_
      rintro e v4 ⟨rfl, hk⟩
      replace HK : Hid (Kp w6 v4 w6.heap.size (K ++ [(.slice A1 k1 c1, N)] ++ [(.slice A2 k2 c2, N + M)] ++ [(.slice A3 k3 c3, N * M)] ++ [(.slice A4 k4 c4, N / M)]) [(.slice A5 k5 c5, if M = 0 then 0 else N % M), (.slice A6 k6 c6, N - M)]) := Lib.hid hk
      clear hk
      go_wp2_with fail
      refine (Kp.keep HK (by first | omega | (simp; omega))).mono ?_
      rintro e v5 ⟨rfl, hk⟩
      replace HK : Hid (Kp w6 v5 w6.heap.size (K ++ [(.slice A1 k1 c1, N)] ++ [(.slice A2 k2 c2, N + M)] ++ [(.slice A3 k3 c3, N * M)] ++ [(.slice A4 k4 c4, N / M)] ++ [(.slice A5 k5 c5, if M = 0 then 0 else N % M)]) [(.slice A6 k6 c6, N - M)]) := Lib.hid hk
      clear hk
      go_wp2_with fail
      refine (Kp.keep HK (by first | omega | (simp; omega))).mono ?_
      rintro e v6 ⟨rfl, hk⟩
      replace HK : Hid (Kp w6 v6 w6.heap.size (K ++ [(.slice A1 k1 c1, N)] ++ [(.slice A2 k2 c2, N + M)] ++ [(.slice A3 k3 c3, N * M)] ++ [(.slice A4 k4 c4, N / M)] ++ [(.slice A5 k5 c5, if M = 0 then 0 else N % M)] ++ [(.slice A6 k6 c6, N - M)]) []) := Lib.hid hk
      clear hk
      go_wp2_with fail
      have hk4 : k4 = 0 := by
        have h1 := HK.out.form (A := A4) (k := k4) (c := c4) (n := N / M) (by simp)
        rwa [hM.out, Nat.div_zero, limbsOf_zero] at h1
      have hk5 : k5 = 0 := by
        have h1 := HK.out.form (A := A5) (k := k5) (c := c5) (n := if M = 0 then 0 else N % M) (by simp)
        rwa [if_pos hM.out, limbsOf_zero] at h1
      subst hk4 hk5
      go_wp2_with fail
      refine (cmp_v (Lib.hid (HNa.out.only HK.out.only)) (Lib.hid (HNb.out.only HK.out.only))).mono ?_
      rintro e x1 ⟨rfl, ho⟩
      replace HK := Lib.hid (HK.out.step ho)
      clear ho
      rw [hcz]
      go_wp2_with fail
      refine (rcmp_v (Lib.hid (HX.out.only HK.out.only)) (Lib.hid (HY.out.only HK.out.only)) HFN HFM).mono ?_
      rintro e x2 ⟨rfl, ho⟩
      replace HK := Lib.hid (HK.out.step ho)
      clear ho
      rw [hcz]
      go_wp2_with fail
      have hv := HX.out.only HK.out.only
      refine (is_nv (n := N) (Lib.hid (HK.out.nv (u := .slice A1 k1 c1) (n := N) (by simp))) (Lib.hid (HK.out.form (A := A1) (k := k1) (c := c1) (n := N) (by simp))) (Lib.hid hv) HFN).mono ?_
      clear hv
      rintro e x3 ⟨rfl, ho⟩
      rw [decide_eq_true rfl]
      replace HK := Lib.hid (HK.out.step ho)
      clear ho
      go_wp2_with fail
      refine (radd_v (Lib.hid (HX.out.only HK.out.only)) (Lib.hid (HY.out.only HK.out.only)) HFN HFM).mono ?_
      rintro e x4 ⟨Bx4, lx4, dx4, rfl, hv, -, ho⟩
      replace HK := Lib.hid (HK.out.step ho)
      clear ho
      go_wp2_with fail
      refine (is_nv (n := N + M) (Lib.hid (HK.out.nv (u := .slice A2 k2 c2) (n := N + M) (by simp))) (Lib.hid (HK.out.form (A := A2) (k := k2) (c := c2) (n := N + M) (by simp))) (Lib.hid hv) HFs).mono ?_
      clear hv
      rintro e x5 ⟨rfl, ho⟩
      rw [decide_eq_true rfl]
      replace HK := Lib.hid (HK.out.step ho)
      clear ho
      go_wp2_with fail
      refine (rmul_v (Lib.hid (HX.out.only HK.out.only)) (Lib.hid (HY.out.only HK.out.only)) HFN HFM).mono ?_
      rintro e x6 ⟨Bx6, lx6, dx6, rfl, hv, -, ho⟩
      replace HK := Lib.hid (HK.out.step ho)
      clear ho
      go_wp2_with fail
      refine (is_nv (n := N * M) (Lib.hid (HK.out.nv (u := .slice A3 k3 c3) (n := N * M) (by simp))) (Lib.hid (HK.out.form (A := A3) (k := k3) (c := c3) (n := N * M) (by simp))) (Lib.hid hv) HFm).mono ?_
      clear hv
      rintro e x7 ⟨rfl, ho⟩
      rw [decide_eq_true rfl]
      replace HK := Lib.hid (HK.out.step ho)
      clear ho
      go_wp2_with fail
      refine (rcmp_v (Lib.hid (HX.out.only HK.out.only)) (Lib.hid (HY.out.only HK.out.only)) HFN HFM).mono ?_
      rintro e x8 ⟨rfl, ho⟩
      replace HK := Lib.hid (HK.out.step ho)
      clear ho
      rw [hcz]
      go_wp2_with fail
      refine (rsub_v (Lib.hid (HX.out.only HK.out.only)) (Lib.hid (HY.out.only HK.out.only)) HFN hN).mono ?_
      rintro e x9 ⟨Bx9, lx9, dx9, rfl, hv, -, ho⟩
      replace HK := Lib.hid (HK.out.step ho)
      clear ho
      go_wp2_with fail
      refine (is_nv (n := N - M) (Lib.hid (HK.out.nv (u := .slice A6 k6 c6) (n := N - M) (by simp))) (Lib.hid (HK.out.form (A := A6) (k := k6) (c := c6) (n := N - M) (by simp))) (Lib.hid hv) HFd).mono ?_
      clear hv
      rintro e x10 ⟨rfl, ho⟩
      rw [decide_eq_true rfl]
      replace HK := Lib.hid (HK.out.step ho)
      clear ho
      go_wp2_with fail
      go_roundw
      case rel => exact ⟨j + 1, _, by omega, by go_num, by simp [hKl.out]; omega, HK.out⟩
      case measure => simp [intOf]; omega
    · have hnl : ¬ (j : Int) < 2 := by omega
      go_wp2_with fail
      refine (stays_any gL p cL c A xs _ (Lib.hid (HLa.out.only HK.out.only (by simp))) (Lib.hid (hr.out.only (HO6.out.nil_trans HK.out.only))) hp (by omega)).mono ?_
      rintro e y1 ⟨rfl, ho⟩
      replace HK := Lib.hid (HK.out.step ho)
      clear ho
      go_wp2_with fail
      refine (stays_any gM q cM d B ys _ (Lib.hid (HLb.out.only HK.out.only (by simp))) (Lib.hid (hs.out.only (HO6.out.nil_trans HK.out.only))) hq (by omega)).mono ?_
      rintro e y2 ⟨rfl, ho⟩
      replace HK := Lib.hid (HK.out.step ho)
      clear ho
      go_wp2_with fail
      refine (Kp.apart HK (by omega)).mono ?_
      rintro e y3 ⟨rfl, ho⟩
      have HO7 := Lib.hid (HO6.out.nil_trans ho)
      clear ho
      go_wp2_with fail
      go_ret
      exact ⟨rfl, HO7.out⟩

theorem natTells_any (A : Option Addr) (c : Nat) (xs : List Nat) (B : Option Addr) (d : Nat) (ys : List Nat) (cut : Int) (w : World) (hA : LimbsIn w A xs) (hc : xs.length ≤ c) (_ : c ≤ maxLen) (hB : LimbsIn w B ys) (hd : ys.length ≤ d) (_ : d ≤ maxLen) (_ : (Lit.int .i64 cut).wf = true) (htab : Tab w) (_ : Tab6 w) :
    Calls Tryz.prog 3 #[.slice A xs.length c, .slice B ys.length d, .int .i64 cut] w fun e w' => e = .returned (.bool true) ∧ Only [] w w' := by
  cases hl : lightB [⟨A, xs.length, c⟩, ⟨B, ys.length, d⟩] with
  | false => exact ntells_out A B _ c _ d cut w htab hl
  | true =>
    have h2 : xs.length ≤ 40 ∧ ys.length ≤ 40 := by simpa [lightB] using hl
    have hn := Lib.hid (Lim.val hA.2 h2.1)
    have hm := Lib.hid (Lim.val hB.2 h2.2)
    by_cases h0 : val ys = 0
    · exact ntells_01 A B _ c _ d _ _ xs ys cut w htab (Lib.hid hl) (Lib.hid hA.1) (Lib.hid hA.2) (Lib.hid rfl) hc h2.1 (Lib.hid rfl) (Lib.hid hB.1) (Lib.hid hB.2) (Lib.hid rfl) hd h2.2 (Lib.hid rfl) hn hm (Lib.hid h0) (Lib.hid (by omega))
    · by_cases h1 : val ys ≤ val xs
      · exact ntells_11 A B _ c _ d _ _ xs ys cut w htab (Lib.hid hl) (Lib.hid hA.1) (Lib.hid hA.2) (Lib.hid rfl) hc h2.1 (Lib.hid rfl) (Lib.hid hB.1) (Lib.hid hB.2) (Lib.hid rfl) hd h2.2 (Lib.hid rfl) hn hm (Lib.hid h0) (Lib.hid h1)
      · exact ntells_10 A B _ c _ d _ _ xs ys cut w htab (Lib.hid hl) (Lib.hid hA.1) (Lib.hid hA.2) (Lib.hid rfl) hc h2.1 (Lib.hid rfl) (Lib.hid hB.1) (Lib.hid hB.2) (Lib.hid rfl) hd h2.2 (Lib.hid rfl) hn hm (Lib.hid h0) (Lib.hid h1)
end Go.Proofs.YtmjnifjohfljaaaGreatDoor
