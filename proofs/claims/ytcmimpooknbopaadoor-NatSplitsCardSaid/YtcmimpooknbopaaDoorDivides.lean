/-
  NatDivides: the law's walk.
-/
import Derived.Test.YtcmimpooknbopaaDoorEnv
import Derived.Test.YtcmimpooknbopaaDoorAlive1
import Derived.Test.YtcmimpooknbopaaDoorLimbsIn
import Derived.Test.YtcmimpooknbopaaDoorDoorN
namespace Go.Proofs.YtcmimpooknbopaaDoor
open Go.RowKit

theorem root_sq (m : Nat) : rootN (m * m) = m := root_is (Nat.le_refl _) (by rw [Nat.add_mul, Nat.mul_add]; omega)
theorem root_sq2 (m : Nat) : rootN (m * m + (m + m)) = m := root_is (by omega) (by rw [Nat.add_mul, Nat.mul_add]; omega)

set_option maxHeartbeats 800000 in
set_option maxRecDepth 100000 in
theorem divides_out (A B : Option Addr) (c d n m : Nat) (w : World) (htab : Hid (Tab w)) (hl : lightB [⟨A, n, c⟩, ⟨B, m, d⟩] = false) :
    Calls Tryd.prog 4 #[.slice A n c, .slice B m d] w fun e w' => e = .returned (.bool true) ∧ Only [] w w' := by
  have HL := Lib.hid hl
  clear hl
  go_enter Tryd.func4, Tryd.ntmps4
  go_wp2_with fail
  refine (light_v [⟨A, n, c⟩, ⟨B, m, d⟩] 2 (Lib.hid rfl) (by omega)).mono ?_
  rintro e w1 ⟨rfl, ho1⟩
  rw [HL.out]
  have HO1 := Lib.hid ho1
  clear ho1
  go_wp2_with fail
  refine (alive1_any w1 (Lib.hid (htab.out.only HO1.out))).mono ?_
  rintro e w2 ⟨rfl, ho2⟩
  have HO2 := Lib.hid (HO1.out.nil_trans ho2)
  clear ho2
  go_wp2_with fail
  go_ret
  exact ⟨rfl, HO2.out⟩

set_option maxHeartbeats 3200000 in
set_option maxRecDepth 100000 in
theorem divides_in (A B : Option Addr) (c d p q m n : Nat) (w : World) (htab : Hid (Tab w)) (hl : Hid (lightB [⟨A, p, c⟩, ⟨B, q, d⟩] = true)) (ha : Hid (NV w (.slice A p c) m)) (hb : Hid (NV w (.slice B q d) n)) (hm : Hid (m < BB ^ 40)) :
    Calls Tryd.prog 4 #[.slice A p c, .slice B q d] w fun e w' => e = .returned (.bool true) ∧ Only [] w w' := by
  have HE := Lib.hid (((Env.start w).push hb.out).push ha.out)
  have HFmm : Hid (Few (m * m)) := Few.of_pow (few_mul hm.out hm.out) (by omega)
  have HF2 : Hid (Few (m + m)) := Few.of_pow (few_add hm.out hm.out) (by omega)
  have HFs : Hid (Few (m * m + (m + m))) := Few.of_pow (few_add (i := 80) (few_mul hm.out hm.out) (Nat.lt_of_lt_of_le (few_add hm.out hm.out) (Nat.pow_le_pow_right BB_pos (by omega)))) (by omega)
  clear ha hb
  go_enter Tryd.func4, Tryd.ntmps4
  go_wp2_with fail
  refine (light_v [⟨A, p, c⟩, ⟨B, q, d⟩] 2 (Lib.hid rfl) (by omega)).mono ?_
  rintro e w1 ⟨rfl, ho⟩
  rw [hl.out]
  replace HE := Lib.hid (HE.out.step ho)
  clear ho
  go_wp2_with fail
  refine (alive1_any w1 (Lib.hid (htab.out.only HE.out.only))).mono ?_
  rintro e w2 ⟨rfl, ho⟩
  replace HE := Lib.hid (HE.out.step ho)
  clear ho
  go_wp2_with fail
  refine (divMod_v (Env.at HE 0 rfl rfl) (Env.at HE 1 rfl rfl)).mono ?_
  rintro e w3 ⟨A1, k1, c1, A2, k2, c2, _, _, rfl, rfl, rfl, hr1, hr2, hv1, hv2, -, ho⟩
  replace HE := Lib.hid (((HE.out.step ho).push hv2).push hv1)
  have HR1 := Lib.hid hr1
  have HR2 := Lib.hid hr2
  clear hr1 hr2 hv1 hv2 ho
  go_wp2_with fail
  refine (mul_v 3 (Env.at HE 2 rfl rfl) (Env.at HE 2 rfl rfl) HFmm).mono ?_
  rintro e w4 ⟨A3, k3, c3, rfl, -, hv, ho⟩
  replace HE := Lib.hid ((HE.out.step ho).push hv)
  clear hv ho
  go_wp2_with fail
  refine (sqrt_v (Env.at HE 0 rfl rfl)).mono ?_
  rintro e w5 ⟨A4, k4, c4, A5, k5, c5, _, _, rfl, rfl, rfl, -, hr5, hv4, hv5, -, ho⟩
  rw [root_sq, Nat.sub_self] at hr5 hv5
  rw [root_sq] at hv4
  obtain rfl : k5 = 0 := by have := hr5.len; rwa [limbsOf_zero] at this
  replace HE := Lib.hid (((HE.out.step ho).push hv5).push hv4)
  clear hr5 hv4 hv5 ho
  go_wp2_with fail
  refine (add2_v (Env.at HE 5 rfl rfl) (Env.at HE 5 rfl rfl) HF2).mono ?_
  rintro e w6 ⟨A6, k6, c6, rfl, -, hv, ho⟩
  replace HE := Lib.hid ((HE.out.step ho).push hv)
  clear hv ho
  go_wp2_with fail
  refine (add2_v (Env.at HE 3 rfl rfl) (Env.at HE 0 rfl rfl) HFs).mono ?_
  rintro e w7 ⟨A7, k7, c7, rfl, -, hv, ho⟩
  replace HE := Lib.hid ((HE.out.step ho).push hv)
  clear hv ho
  go_wp2_with fail
  refine (sqrt_v (Env.at HE 0 rfl rfl)).mono ?_
  rintro e w8 ⟨A8, k8, c8, A9, k9, c9, _, _, rfl, rfl, rfl, -, -, hv8, hv9, -, ho⟩
  rw [root_sq2, Nat.add_sub_cancel_left] at hv9
  rw [root_sq2] at hv8
  replace HE := Lib.hid (((HE.out.step ho).push hv9).push hv8)
  clear hv8 hv9 ho
  go_wp2_with fail
  refine (cmp_v (Env.at HE 4 rfl rfl) (Env.at HE 9 rfl rfl)).mono ?_
  rintro e w9 ⟨rfl, ho⟩
  replace HE := Lib.hid (HE.out.step ho)
  clear ho
  rw [cmp_eq rfl]
  go_wp2_with fail
  refine (cmp_v (Env.at HE 0 rfl rfl) (Env.at HE 9 rfl rfl)).mono ?_
  rintro e wa ⟨rfl, ho⟩
  replace HE := Lib.hid (HE.out.step ho)
  clear ho
  rw [cmp_eq rfl]
  go_wp2_with fail
  refine (add2_v (Env.at HE 9 rfl rfl) (Env.at HE 9 rfl rfl) HF2).mono ?_
  rintro e wb ⟨Ab, kb, cb, rfl, -, hv, ho⟩
  replace HE := Lib.hid ((HE.out.step ho).push hv)
  clear hv ho
  go_wp2_with fail
  refine (cmp_v (Env.at HE 2 rfl rfl) (Env.at HE 0 rfl rfl)).mono ?_
  rintro e wc ⟨rfl, ho⟩
  replace HE := Lib.hid (HE.out.step ho)
  clear ho
  rw [cmp_eq rfl]
  go_wp2_with fail
  refine (bits_v (Env.at HE 11 rfl rfl)).mono ?_
  rintro e w' ⟨rfl, rfl⟩
  by_cases h0 : n = 0
  · have e1 : (limbsOf (m / n)).length = 0 := by rw [h0, Nat.div_zero, limbsOf_zero]; rfl
    have e2 : (limbsOf (if n = 0 then 0 else m % n)).length = 0 := by rw [if_pos h0, limbsOf_zero]; rfl
    obtain rfl : k1 = 0 := HR1.out.len.trans e1
    obtain rfl : k2 = 0 := HR2.out.len.trans e2
    have e3 : bitsN n = 0 := by rw [h0]; rfl
    have e4 : decide (n = 0) = true := by simp [h0]
    rw [e3, e4]
    clear e1 e2 e3 e4 h0
    go_wp2_with fail
    go_ret
    exact ⟨rfl, HE.out.only⟩
  · have e3 : ((bitsN n : Int) == 0) = false := by
      rw [beq_eq_false_iff_ne]
      unfold bitsN
      rw [if_neg h0]
      omega
    have e4 : decide (n = 0) = false := by simp [h0]
    have HLt : Hid (cmpZ (if n = 0 then 0 else m % n) n = -1) := cmp_le (by rw [if_neg h0]; exact Nat.mod_lt _ (by omega))
    have HMul : Hid (m / n * n ≤ m) := Nat.div_mul_le_self m n
    have HSum : Hid (m / n * n + (if n = 0 then 0 else m % n) = m) := by
      show _ = _
      rw [if_neg h0, Nat.mul_comm]
      exact Nat.div_add_mod m n
    have HFm : Hid (Few m) := Few.of_pow hm.out (by omega)
    have HFq : Hid (Few (m / n * n)) := HFm.out.le HMul.out
    have HFq2 : Hid (Few (m / n * n + (if n = 0 then 0 else m % n))) := by show Few _; rw [HSum.out]; exact HFm.out
    rw [e4]
    clear e4 h0
    go_wp2_with fail
    refine (cmp_v (Env.at HE 9 rfl rfl) (Env.at HE 11 rfl rfl)).mono ?_
    rintro e wd ⟨rfl, ho⟩
    replace HE := Lib.hid (HE.out.step ho)
    clear ho
    rw [HLt.out]
    go_wp2_with fail
    refine (mul_v 4 (Env.at HE 8 rfl rfl) (Env.at HE 11 rfl rfl) HFq).mono ?_
    rintro e we ⟨Ae, ke, ce, rfl, -, hv, ho⟩
    replace HE := Lib.hid ((HE.out.step ho).push hv)
    clear hv ho
    go_wp2_with fail
    refine (add2_v (Env.at HE 0 rfl rfl) (Env.at HE 10 rfl rfl) HFq2).mono ?_
    rintro e wf ⟨Af, kf, cf, rfl, -, hv, ho⟩
    replace HE := Lib.hid ((HE.out.step ho).push hv)
    clear hv ho
    go_wp2_with fail
    refine (cmp_v (Env.at HE 0 rfl rfl) (Env.at HE 12 rfl rfl)).mono ?_
    rintro e wg ⟨rfl, ho⟩
    replace HE := Lib.hid (HE.out.step ho)
    clear ho
    rw [cmp_eq HSum.out]
    go_wp2_with fail
    go_ret
    exact ⟨rfl, HE.out.only⟩
theorem divides_any (A : Option Addr) (c : Nat) (xs : List Nat) (B : Option Addr) (d : Nat) (ys : List Nat) (w : World) (hA : LimbsIn w A xs) (hc : xs.length ≤ c) (_ : c ≤ maxLen) (hB : LimbsIn w B ys) (hd : ys.length ≤ d) (_ : d ≤ maxLen) (htab : Tab w) (_ : Tab6 w) :
    Calls Tryd.prog 4 #[.slice A xs.length c, .slice B ys.length d] w fun e w' => e = .returned (.bool true) ∧ Only [] w w' := by
  cases hl : lightB [⟨A, xs.length, c⟩, ⟨B, ys.length, d⟩] with
  | false => exact divides_out A B c d _ _ w htab hl
  | true =>
    obtain ⟨h1, h2⟩ : xs.length ≤ 40 ∧ ys.length ≤ 40 := by simpa [lightB] using hl
    exact divides_in A B c d _ _ (val xs) (val ys) w htab (Lib.hid hl) (NV.mk ⟨hA.1, hA.2, by omega⟩ hc (by omega)) (NV.mk ⟨hB.1, hB.2, by omega⟩ hd (by omega))
      (Nat.lt_of_lt_of_le (val_lt hA.2) (Nat.pow_le_pow_right BB_pos h1))
end Go.Proofs.YtcmimpooknbopaaDoor
