/-
  WholeShifts: the walk.
-/
import Derived.Test.YtafipkighpjknaaDoorRwB
import Derived.Test.YtafipkighpjknaaDoorLimbsIn
namespace Go.Proofs.YtafipkighpjknaaDoor
set_option linter.unusedSimpArgs false
open Go.RowKit

theorem rmulV_d {w : World} {a b : Value} {x y : Dy} {N : Nat} (r : Dy) (hr : dMul x y = r) (ha : Hid (RD w a x)) (hb : Hid (RD w b y)) (bx : Hid (Bnd N x)) (by_ : Hid (Bnd N y)) (hN : N ≤ 2000000) : Calls Tryd.prog 46 #[a, b] w (RDP r w) := hr ▸ rmul_d ha hb bx by_ hN
theorem rfloorV_d {w : World} {a b : Value} {x y : Dy} {N : Nat} {up : Bool} (r : Dy) (hr : nrm (quoI up (intD x) (intD y)) 0 = r) (ha : Hid (RD w a x)) (hb : Hid (RD w b y)) (bx : Hid (Bnd N x)) (by_ : Hid (Bnd N y)) (hN : N ≤ 1000000) (hxe : 0 ≤ x.e) (hye : 0 ≤ y.e) (hy0 : y.z ≠ 0) : Calls Tryd.prog 47 #[a, b, .bool up] w (RDP r w) := hr ▸ rfloor_d up ha hb bx by_ hN hxe hye hy0
set_option maxHeartbeats 800000 in
set_option maxRecDepth 100000 in
theorem wshifts_out (neg : Bool) (A : Option Addr) (p c : Nat) (n : Int) (w : World) (htab : Hid (Tab w)) (HL : Hid (lightB [⟨A, p, c⟩] = false)) :
    Calls Tryd.prog 5 #[.bool neg, .slice A p c, .int .i64 n] w fun e w' => e = .returned (.bool true) ∧ Only [] w w' := by
  go_enter Tryd.func5, Tryd.ntmps5
  go_wp2_with fail
  refine (light_v [⟨A, p, c⟩] 1 (Lib.hid rfl) (by omega)).mono ?_
  rintro e w1 ⟨rfl, ho1⟩
  rw [HL.out]
  have HO1 := Lib.hid ho1
  clear ho1
  go_wp2_with fail
  refine (alive2_any w1 (Lib.hid (htab.out.only HO1.out))).mono ?_
  rintro e w2 ⟨rfl, ho2⟩
  have HO2 := Lib.hid (HO1.out.nil_trans ho2)
  clear ho2
  go_wp2_with fail
  go_ret
  exact ⟨rfl, HO2.out⟩
set_option maxHeartbeats 3200000 in
set_option maxRecDepth 100000 in
theorem wshifts_far (neg : Bool) (A : Option Addr) (p c : Nat) (z n : Int) (w : World) (htab : Hid (Tab w)) (HL : Hid (lightB [⟨A, p, c⟩] = true)) (ha : Hid (IV w (.agg #[.bool neg, .slice A p c]) z)) (hn : n < 0 ∨ 16777216 < n) :
    Calls Tryd.prog 5 #[.bool neg, .slice A p c, .int .i64 n] w fun e w' => e = .returned (.bool true) ∧ Only [] w w' := by
  have B0 : Hid (Bnd 1 (nrm 0 0)) := by rw [nrm_zero]; exact ⟨by decide, by decide, by decide⟩
  have HRz : Hid (∀ w' : World, Hid (RD w' (.agg #[.bool false, .slice none 0 0, .int .i64 0]) (nrm 0 0))) := fun w' => by
    rw [nrm_zero]
    exact RD.of (x := ⟨0, 0⟩) (RV.nil _) ⟨by decide, by show 0 = (R.limbsOf 0).length; rw [R.limbsOf_zero]; rfl⟩
  rcases hn with h1 | h1
  · have hn : n < 0 ∨ 16777216 < n := .inl h1
    go_enter Tryd.func5, Tryd.ntmps5
    go_wp2_with fail
    refine (light_v [⟨A, p, c⟩] 1 (Lib.hid rfl) (by omega)).mono ?_
    rintro e w1 ⟨rfl, ho1⟩
    rw [HL.out]
    have HO1 := Lib.hid ho1
    clear ho1
    go_wp2_with fail
    refine (alive2_any w1 (Lib.hid (htab.out.only HO1.out))).mono ?_
    rintro e w2 ⟨rfl, ho2⟩
    have HO2 := Lib.hid (HO1.out.nil_trans ho2)
    clear ho2
    go_wp2_with fail
    have he := ((WB.start w).step HO2.out).new (ha.out.only HO2.out)
    have HE := Lib.hid he
    clear he
    obtain ⟨t0, t1, -, -⟩ := WB.cells HE 0 rfl
    go_wp2_with fail
    (with_reducible refine (rref_w (WB.iv HE 0 rfl)).mono ?_)
    rintro e w3 ⟨s3, A3, k3, c3, rfl, hc, hv, ho⟩
    have hq := QB.new (x := nrm z 0) hv hc
    have HQp := Lib.hid hq
    have he := (HE.out.step ho).step ((Only.refl [] w3).alloc (.cells #[.bool s3, .slice A3 k3 c3, .int .i64 (nrm z 0).e] 53))
    replace HE := Lib.hid he
    clear hc hv ho hq he t0 t1
    clear HQp
    obtain ⟨t0, t1, -, -⟩ := WB.cells HE 0 rfl
    go_wp2_with fail
    (with_reducible refine (shlfar_w n hn (WB.iv HE 0 rfl)).mono ?_)
    rintro e w4 ⟨s4, A4, k4, c4, rfl, hc, hv, ho⟩
    replace HE := Lib.hid (HE.out.step ho)
    have HV := Lib.hid hv
    have HC := Lib.hid hc
    clear hc hv ho t0 t1
    obtain ⟨t0, t1, -, -⟩ := WB.cells HE 0 rfl
    go_wp2_with fail
    (with_reducible refine (is2_w HV HC (HRz.out _) B0 (by omega)).mono ?_)
    rintro e w9 ⟨rfl, ho⟩
    replace HE := Lib.hid (HE.out.step ho)
    clear ho HV HC t0 t1
    obtain ⟨t0, t1, -, -⟩ := WB.cells HE 0 rfl
    go_wp2_with fail
    (with_reducible refine (floorfar_w n hn (WB.iv HE 0 rfl)).mono ?_)
    rintro e w5 ⟨s5, A5, k5, c5, rfl, hc, hv, ho⟩
    replace HE := Lib.hid (HE.out.step ho)
    have HV := Lib.hid hv
    have HC := Lib.hid hc
    clear hc hv ho t0 t1
    obtain ⟨t0, t1, -, -⟩ := WB.cells HE 0 rfl
    go_wp2_with fail
    (with_reducible refine (is2_w HV HC (HRz.out _) B0 (by omega)).mono ?_)
    rintro e w9 ⟨rfl, ho⟩
    replace HE := Lib.hid (HE.out.step ho)
    clear ho HV HC t0 t1
    go_wp2_with fail
    go_ret
    exact ⟨rfl, HE.out.only⟩
  · have hn : n < 0 ∨ 16777216 < n := .inr h1
    have h0 : ¬ n < 0 := by omega
    go_enter Tryd.func5, Tryd.ntmps5
    go_wp2_with fail
    refine (light_v [⟨A, p, c⟩] 1 (Lib.hid rfl) (by omega)).mono ?_
    rintro e w1 ⟨rfl, ho1⟩
    rw [HL.out]
    have HO1 := Lib.hid ho1
    clear ho1
    go_wp2_with fail
    refine (alive2_any w1 (Lib.hid (htab.out.only HO1.out))).mono ?_
    rintro e w2 ⟨rfl, ho2⟩
    have HO2 := Lib.hid (HO1.out.nil_trans ho2)
    clear ho2
    go_wp2_with fail
    have he := ((WB.start w).step HO2.out).new (ha.out.only HO2.out)
    have HE := Lib.hid he
    clear he
    obtain ⟨t0, t1, -, -⟩ := WB.cells HE 0 rfl
    go_wp2_with fail
    (with_reducible refine (rref_w (WB.iv HE 0 rfl)).mono ?_)
    rintro e w3 ⟨s3, A3, k3, c3, rfl, hc, hv, ho⟩
    have hq := QB.new (x := nrm z 0) hv hc
    have HQp := Lib.hid hq
    have he := (HE.out.step ho).step ((Only.refl [] w3).alloc (.cells #[.bool s3, .slice A3 k3 c3, .int .i64 (nrm z 0).e] 53))
    replace HE := Lib.hid he
    clear hc hv ho hq he t0 t1
    clear HQp
    obtain ⟨t0, t1, -, -⟩ := WB.cells HE 0 rfl
    go_wp2_with fail
    (with_reducible refine (shlfar_w n hn (WB.iv HE 0 rfl)).mono ?_)
    rintro e w4 ⟨s4, A4, k4, c4, rfl, hc, hv, ho⟩
    replace HE := Lib.hid (HE.out.step ho)
    have HV := Lib.hid hv
    have HC := Lib.hid hc
    clear hc hv ho t0 t1
    obtain ⟨t0, t1, -, -⟩ := WB.cells HE 0 rfl
    go_wp2_with fail
    (with_reducible refine (is2_w HV HC (HRz.out _) B0 (by omega)).mono ?_)
    rintro e w9 ⟨rfl, ho⟩
    replace HE := Lib.hid (HE.out.step ho)
    clear ho HV HC t0 t1
    obtain ⟨t0, t1, -, -⟩ := WB.cells HE 0 rfl
    go_wp2_with fail
    (with_reducible refine (floorfar_w n hn (WB.iv HE 0 rfl)).mono ?_)
    rintro e w5 ⟨s5, A5, k5, c5, rfl, hc, hv, ho⟩
    replace HE := Lib.hid (HE.out.step ho)
    have HV := Lib.hid hv
    have HC := Lib.hid hc
    clear hc hv ho t0 t1
    obtain ⟨t0, t1, -, -⟩ := WB.cells HE 0 rfl
    go_wp2_with fail
    (with_reducible refine (is2_w HV HC (HRz.out _) B0 (by omega)).mono ?_)
    rintro e w9 ⟨rfl, ho⟩
    replace HE := Lib.hid (HE.out.step ho)
    clear ho HV HC t0 t1
    go_wp2_with fail
    go_ret
    exact ⟨rfl, HE.out.only⟩
set_option maxHeartbeats 800000 in
set_option maxRecDepth 100000 in
theorem wshifts_mid (neg : Bool) (A : Option Addr) (p c : Nat) (z n : Int) (w : World) (htab : Hid (Tab w)) (HL : Hid (lightB [⟨A, p, c⟩] = true)) (ha : Hid (IV w (.agg #[.bool neg, .slice A p c]) z)) (h1 : 5000 < n) (h2 : n ≤ 16777216) :
    Calls Tryd.prog 5 #[.bool neg, .slice A p c, .int .i64 n] w fun e w' => e = .returned (.bool true) ∧ Only [] w w' := by
  have h0 : ¬ n < 0 := by omega
  have h3 : ¬ 16777216 < n := by omega
  go_enter Tryd.func5, Tryd.ntmps5
  go_wp2_with fail
  refine (light_v [⟨A, p, c⟩] 1 (Lib.hid rfl) (by omega)).mono ?_
  rintro e w1 ⟨rfl, ho1⟩
  rw [HL.out]
  have HO1 := Lib.hid ho1
  clear ho1
  go_wp2_with fail
  refine (alive2_any w1 (Lib.hid (htab.out.only HO1.out))).mono ?_
  rintro e w2 ⟨rfl, ho2⟩
  have HO2 := Lib.hid (HO1.out.nil_trans ho2)
  clear ho2
  go_wp2_with fail
  have he := ((WB.start w).step HO2.out).new (ha.out.only HO2.out)
  have HE := Lib.hid he
  clear he
  obtain ⟨t0, t1, -, -⟩ := WB.cells HE 0 rfl
  go_wp2_with fail
  (with_reducible refine (rref_w (WB.iv HE 0 rfl)).mono ?_)
  rintro e w3 ⟨s3, A3, k3, c3, rfl, hc, hv, ho⟩
  have hq := QB.new (x := nrm z 0) hv hc
  have HQp := Lib.hid hq
  have he := (HE.out.step ho).step ((Only.refl [] w3).alloc (.cells #[.bool s3, .slice A3 k3 c3, .int .i64 (nrm z 0).e] 53))
  replace HE := Lib.hid he
  clear hc hv ho hq he t0 t1
  go_wp2_with fail
  go_ret
  exact ⟨rfl, HE.out.only⟩
set_option maxHeartbeats 6400000 in
set_option maxRecDepth 100000 in
theorem wshifts_in (neg : Bool) (A : Option Addr) (p c n N0 : Nat) (z : Int) (w : World) (htab : Hid (Tab w)) (hT : Hid (Tab6 w)) (HL : Hid (lightB [⟨A, p, c⟩] = true)) (ha : Hid (IV w (.agg #[.bool neg, .slice A p c]) z)) (hz : Hid (z.natAbs < 2 ^ N0)) (hN0 : N0 = 64 * 40) (hn : (n : Int) ≤ 5000) :
    Calls Tryd.prog 5 #[.bool neg, .slice A p c, .int .i64 (n : Int)] w fun e w' => e = .returned (.bool true) ∧ Only [] w w' := by
  have hn24 : (n : Int) ≤ 16777216 := by omega
  have HFz : Hid (Few (z.natAbs + 1)) := few_two_pow (N := N0 + 1) (by rw [Nat.pow_succ]; have := hz.out; omega) (by omega)
  have HFs : Hid (Few (z * 2 ^ n).natAbs) := few_two_pow (abs_shl_lt (k := n) hz.out) (by omega)
  have hqa : ((2 : Int) ^ n).natAbs = 2 ^ n := by rw [Int.natAbs_pow]; rfl
  have BP : Hid (Bnd 8000 (nrm z 0)) := bnd_nrm (K := N0) (M := 0) hz.out (by omega) (by omega) (by omega)
  have BQ : Hid (Bnd 8000 (nrm ((2 : Int) ^ n) 0)) := bnd_nrm (K := n + 1) (M := 0) (by rw [hqa, Nat.pow_succ]; have : 0 < 2 ^ n := Nat.pow_pos (by omega); omega) (by omega) (by omega) (by omega)
  have HMul : Hid (dMul (nrm z 0) (nrm ((2 : Int) ^ n) 0) = nrm (z * 2 ^ n) 0) := by
    apply Can.ext (dMul_can _ _) (nrm_can _ _)
    rw [dMul_q, nrm_q, nrm_q, nrm_q, Rat.intCast_mul]
    have : p2 0 = 1 := rfl
    rw [this]
    grind
  have BM : Hid (Bnd 32000 (nrm (z * 2 ^ n) 0)) := HMul.out ▸ BP.out.mul BQ.out (by omega)
  have HFl : Hid (nrm (quoI false (intD (nrm z 0)) (intD (nrm ((2 : Int) ^ n) 0))) 0 = nrm (quoI false z (2 ^ n : Int)) 0) := by show _ = _; rw [intD_nrm, intD_nrm]
  have HPe : Hid (0 ≤ (nrm z 0).e) := nrm_e0 z
  have HQe : Hid (0 ≤ (nrm ((2 : Int) ^ n) 0).e) := nrm_e0 _
  have HQ0 : Hid ((nrm ((2 : Int) ^ n) 0).z ≠ 0) := fun h => by
    have h1 := intD_nrm ((2 : Int) ^ n)
    unfold intD at h1
    rw [h, Int.zero_mul] at h1
    have := Int.pow_pos (n := 2) (m := n) (by decide)
    omega
  have BF : Hid (Bnd 8000 (nrm (quoI false z (2 ^ n : Int)) 0)) := by
    refine bnd_nrm (K := N0 + 1) (M := 0) ?_ (by omega) (by omega) (by omega)
    have h := floor_val (decide (z < 0)) z.natAbs n
    rw [sg_self] at h
    rw [← h, sg_abs, Nat.pow_succ]
    have h1 := Nat.div_le_self z.natAbs (2 ^ n)
    have h2 := hz.out
    split <;> omega
  have HSq : Hid (nrm (sg false (1 * 2 ^ n)) 0 = nrm ((2 : Int) ^ n) 0) := by
    show _ = _
    rw [sg_false, Nat.one_mul]
    congr 1
  have HFq : Hid (Few (1 * 2 ^ n)) := by show Few _; rw [Nat.one_mul]; exact few_two_pow (N := n + 1) (by rw [Nat.pow_succ]; have : 0 < 2 ^ n := Nat.pow_pos (by omega); omega) (by omega)
  have F1 : Hid (Few 1) := few_small (by rw [BB_val]; omega)
  have h0 : ¬ (n : Int) < 0 := by omega
  have h3 : ¬ (16777216 : Int) < (n : Int) := by omega
  have h4 : ¬ (5000 : Int) < (n : Int) := by omega
  have hn9 : (n : Int) ≤ 90000000 := by omega
  clear hqa hz hN0 hn
  go_enter Tryd.func5, Tryd.ntmps5
  go_wp2_with fail
  refine (light_v [⟨A, p, c⟩] 1 (Lib.hid rfl) (by omega)).mono ?_
  rintro e w1 ⟨rfl, ho1⟩
  rw [HL.out]
  have HO1 := Lib.hid ho1
  clear ho1
  go_wp2_with fail
  refine (alive2_any w1 (Lib.hid (htab.out.only HO1.out))).mono ?_
  rintro e w2 ⟨rfl, ho2⟩
  have HO2 := Lib.hid (HO1.out.nil_trans ho2)
  clear ho2
  go_wp2_with fail
  have he := ((WB.start w).step HO2.out).new (ha.out.only HO2.out)
  have HE := Lib.hid he
  clear he
  obtain ⟨t0, t1, -, -⟩ := WB.cells HE 0 rfl
  go_wp2_with fail
  (with_reducible refine (rref_w (WB.iv HE 0 rfl)).mono ?_)
  rintro e w3 ⟨s3, A3, k3, c3, rfl, hc, hv, ho⟩
  have hq := QB.new (x := nrm z 0) hv hc
  have HQp := Lib.hid hq
  have he := (HE.out.step ho).step ((Only.refl [] w3).alloc (.cells #[.bool s3, .slice A3 k3 c3, .int .i64 (nrm z 0).e] 53))
  replace HE := Lib.hid he
  clear hc hv ho hq he t0 t1
  go_wp2_with fail
  (with_reducible refine (rsmall_lit 1 1 _ (Lib.hid (by rw [BB_val]; omega)) (Lib.hid rfl)).mono ?_)
  rintro e w4 ⟨A4, k4, c4, rfl, hv, -, ho⟩
  replace HE := Lib.hid (HE.out.step ho)
  replace HQp := Lib.hid (HQp.out.step ho)
  have HV4 := Lib.hid hv
  clear hv ho
  go_wp2_with fail
  (with_reducible refine (rshl_v n hn9 HV4 F1).mono ?_)
  rintro e w5 ⟨A5, k5, c5, rfl, hv, -, ho⟩
  replace HE := Lib.hid (HE.out.step ho)
  replace HQp := Lib.hid (HQp.out.step ho)
  have HV5 := Lib.hid hv
  clear hv ho HV4
  go_wp2_with fail
  (with_reducible refine (rmake_d false 0 HV5 HFq (by omega) (by omega) HSq.out).mono ?_)
  rintro e w6 ⟨s6, A6, k6, c6, rfl, hc, hv, ho⟩
  have hq := QB.new (x := nrm ((2 : Int) ^ n) 0) hv hc
  have HQq := Lib.hid hq
  have he := (HE.out.step ho).step ((Only.refl [] w6).alloc (.cells #[.bool s6, .slice A6 k6 c6, .int .i64 (nrm ((2 : Int) ^ n) 0).e] 53))
  have hp := (HQp.out.step ho).step ((Only.refl [] w6).alloc (.cells #[.bool s6, .slice A6 k6 c6, .int .i64 (nrm ((2 : Int) ^ n) 0).e] 53))
  replace HE := Lib.hid he
  replace HQp := Lib.hid hp
  clear hc hv ho hq he hp HV5
  go_upto_region 10 with fail
  generalize w6.heap.size = g9 at *
  generalize w6.alloc _ = w7 at *
  apply wp_region_typed2 (by kernel_rfl) [isV _, isV _, isWC (z * 2 ^ n), isV _, isV _, isRD (nrm (z * 2 ^ n) 0), isV _, isV _, isV _, isV _, isWC (quoI false z (2 ^ n : Int)), isV _, isV _, isRD (nrm (quoI false z (2 ^ n : Int)) 0), isV _, isV _, isV _] [[], [], [0, 1], [], [], [3, 4], [2, 5], [6], [7], [7], [7, 8, 9], [7], [7], [7, 11, 12], [7, 10, 13], [7, 14], [15]] (by kernel_rfl) (by kernel_rfl)
  case ho =>
    refine owes2_cons (fun wx hox => ?_) ?_
    · skip
      have hex := HE.out.step hox
      obtain ⟨t0, t1, -, -⟩ := WB.cells (Lib.hid hex) 0 rfl
      have ivx := WB.iv (Lib.hid hex) 0 rfl
      have qp := Lib.hid (HQp.out.step hox)
      have qq := Lib.hid (HQq.out.step hox)
      obtain ⟨a0, a1, a2⟩ := QB.cells qp
      obtain ⟨b0, b1, b2⟩ := QB.cells qq
      refine withs_plain rfl ?_
      simp only [withs, List.getElem?_cons_zero, List.getElem?_cons_succ, Option.bind, Option.getD]
      repeat (first | (with_reducible refine all_isV ?_) | (with_reducible refine all_isRD ?_; intro sx Ax kx cx hvx hwx) | (with_reducible refine all_isWC ?_; intro sx Ax kx cx hvx hwx))
      go_simp
      exact ⟨Only.refl _ _, isV.self _ _⟩
    refine owes2_cons (fun wx hox => ?_) ?_
    · skip
      skip
      refine withs_plain rfl ?_
      simp only [withs, List.getElem?_cons_zero, List.getElem?_cons_succ, Option.bind, Option.getD]
      repeat (first | (with_reducible refine all_isV ?_) | (with_reducible refine all_isRD ?_; intro sx Ax kx cx hvx hwx) | (with_reducible refine all_isWC ?_; intro sx Ax kx cx hvx hwx))
      go_simp
      exact ⟨Only.refl _ _, isV.self _ _⟩
    refine owes2_cons (fun wx hox => ?_) ?_
    · skip
      have hex := HE.out.step hox
      obtain ⟨t0, t1, -, -⟩ := WB.cells (Lib.hid hex) 0 rfl
      have ivx := WB.iv (Lib.hid hex) 0 rfl
      have qp := Lib.hid (HQp.out.step hox)
      have qq := Lib.hid (HQq.out.step hox)
      obtain ⟨a0, a1, a2⟩ := QB.cells qp
      obtain ⟨b0, b1, b2⟩ := QB.cells qq
      refine withs_plain rfl ?_
      simp only [withs, List.getElem?_cons_zero, List.getElem?_cons_succ, Option.bind, Option.getD]
      repeat (first | (with_reducible refine all_isV ?_) | (with_reducible refine all_isRD ?_; intro sx Ax kx cx hvx hwx) | (with_reducible refine all_isWC ?_; intro sx Ax kx cx hvx hwx))
      go_simp
      (with_reducible exact grow_wcc (shl_w n hn24 ivx HFs))
    refine owes2_cons (fun wx hox => ?_) ?_
    · skip
      have hex := HE.out.step hox
      obtain ⟨t0, t1, -, -⟩ := WB.cells (Lib.hid hex) 0 rfl
      have ivx := WB.iv (Lib.hid hex) 0 rfl
      have qp := Lib.hid (HQp.out.step hox)
      have qq := Lib.hid (HQq.out.step hox)
      obtain ⟨a0, a1, a2⟩ := QB.cells qp
      obtain ⟨b0, b1, b2⟩ := QB.cells qq
      refine withs_plain rfl ?_
      simp only [withs, List.getElem?_cons_zero, List.getElem?_cons_succ, Option.bind, Option.getD]
      repeat (first | (with_reducible refine all_isV ?_) | (with_reducible refine all_isRD ?_; intro sx Ax kx cx hvx hwx) | (with_reducible refine all_isWC ?_; intro sx Ax kx cx hvx hwx))
      go_simp
      exact ⟨Only.refl _ _, isV.self _ _⟩
    refine owes2_cons (fun wx hox => ?_) ?_
    · skip
      have hex := HE.out.step hox
      obtain ⟨t0, t1, -, -⟩ := WB.cells (Lib.hid hex) 0 rfl
      have ivx := WB.iv (Lib.hid hex) 0 rfl
      have qp := Lib.hid (HQp.out.step hox)
      have qq := Lib.hid (HQq.out.step hox)
      obtain ⟨a0, a1, a2⟩ := QB.cells qp
      obtain ⟨b0, b1, b2⟩ := QB.cells qq
      refine withs_plain rfl ?_
      simp only [withs, List.getElem?_cons_zero, List.getElem?_cons_succ, Option.bind, Option.getD]
      repeat (first | (with_reducible refine all_isV ?_) | (with_reducible refine all_isRD ?_; intro sx Ax kx cx hvx hwx) | (with_reducible refine all_isWC ?_; intro sx Ax kx cx hvx hwx))
      go_simp
      exact ⟨Only.refl _ _, isV.self _ _⟩
    refine owes2_cons (fun wx hox => ?_) ?_
    · skip
      have hex := HE.out.step hox
      obtain ⟨t0, t1, -, -⟩ := WB.cells (Lib.hid hex) 0 rfl
      have ivx := WB.iv (Lib.hid hex) 0 rfl
      have qp := Lib.hid (HQp.out.step hox)
      have qq := Lib.hid (HQq.out.step hox)
      obtain ⟨a0, a1, a2⟩ := QB.cells qp
      obtain ⟨b0, b1, b2⟩ := QB.cells qq
      refine withs_plain rfl ?_
      simp only [withs, List.getElem?_cons_zero, List.getElem?_cons_succ, Option.bind, Option.getD]
      repeat (first | (with_reducible refine all_isV ?_) | (with_reducible refine all_isRD ?_; intro sx Ax kx cx hvx hwx) | (with_reducible refine all_isWC ?_; intro sx Ax kx cx hvx hwx))
      go_simp
      (with_reducible exact grow_rd (rmulV_d _ HMul.out (QB.rd qp) (QB.rd qq) BP BQ (by omega)))
    refine owes2_cons (fun wx hox => ?_) ?_
    · skip
      have hex := HE.out.step hox
      obtain ⟨t0, t1, -, -⟩ := WB.cells (Lib.hid hex) 0 rfl
      have ivx := WB.iv (Lib.hid hex) 0 rfl
      have qp := Lib.hid (HQp.out.step hox)
      have qq := Lib.hid (HQq.out.step hox)
      obtain ⟨a0, a1, a2⟩ := QB.cells qp
      obtain ⟨b0, b1, b2⟩ := QB.cells qq
      refine withs_plain rfl ?_
      simp only [withs, List.getElem?_cons_zero, List.getElem?_cons_succ, Option.bind, Option.getD]
      repeat (first | (with_reducible refine all_isV ?_) | (with_reducible refine all_isRD ?_; intro sx Ax kx cx hvx hwx) | (with_reducible refine all_isWC ?_; intro sx Ax kx cx hvx hwx))
      go_simp
      (with_reducible exact grow_of (is2_w (by assumption) (by assumption) (RD.of (by assumption) (by assumption)) BM (by omega)))
    refine owes2_cons (fun wx hox => ?_) ?_
    · skip
      skip
      refine withs_plain rfl ?_
      simp only [withs, List.getElem?_cons_zero, List.getElem?_cons_succ, Option.bind, Option.getD]
      repeat (first | (with_reducible refine all_isV ?_) | (with_reducible refine all_isRD ?_; intro sx Ax kx cx hvx hwx) | (with_reducible refine all_isWC ?_; intro sx Ax kx cx hvx hwx))
      go_simp
      exact ⟨Only.refl _ _, isV.self _ _⟩
    refine owes2_cons (fun wx hox => ?_) ?_
    · skip
      have hex := HE.out.step hox
      obtain ⟨t0, t1, -, -⟩ := WB.cells (Lib.hid hex) 0 rfl
      have ivx := WB.iv (Lib.hid hex) 0 rfl
      have qp := Lib.hid (HQp.out.step hox)
      have qq := Lib.hid (HQq.out.step hox)
      obtain ⟨a0, a1, a2⟩ := QB.cells qp
      obtain ⟨b0, b1, b2⟩ := QB.cells qq
      refine withs_guard rfl rfl ?_
      simp only [withs, List.getElem?_cons_zero, List.getElem?_cons_succ, Option.bind, Option.getD]
      repeat (first | (with_reducible refine all_isV ?_) | (with_reducible refine all_isRD ?_; intro sx Ax kx cx hvx hwx) | (with_reducible refine all_isWC ?_; intro sx Ax kx cx hvx hwx))
      refine ⟨by kernel_rfl, ?_⟩
      go_simp
      exact ⟨Only.refl _ _, isV.self _ _⟩
    refine owes2_cons (fun wx hox => ?_) ?_
    · skip
      skip
      refine withs_guard rfl rfl ?_
      simp only [withs, List.getElem?_cons_zero, List.getElem?_cons_succ, Option.bind, Option.getD]
      repeat (first | (with_reducible refine all_isV ?_) | (with_reducible refine all_isRD ?_; intro sx Ax kx cx hvx hwx) | (with_reducible refine all_isWC ?_; intro sx Ax kx cx hvx hwx))
      refine ⟨by kernel_rfl, ?_⟩
      go_simp
      exact ⟨Only.refl _ _, isV.self _ _⟩
    refine owes2_cons (fun wx hox => ?_) ?_
    · skip
      have hex := HE.out.step hox
      obtain ⟨t0, t1, -, -⟩ := WB.cells (Lib.hid hex) 0 rfl
      have ivx := WB.iv (Lib.hid hex) 0 rfl
      have qp := Lib.hid (HQp.out.step hox)
      have qq := Lib.hid (HQq.out.step hox)
      obtain ⟨a0, a1, a2⟩ := QB.cells qp
      obtain ⟨b0, b1, b2⟩ := QB.cells qq
      refine withs_guard rfl rfl ?_
      simp only [withs, List.getElem?_cons_zero, List.getElem?_cons_succ, Option.bind, Option.getD]
      repeat (first | (with_reducible refine all_isV ?_) | (with_reducible refine all_isRD ?_; intro sx Ax kx cx hvx hwx) | (with_reducible refine all_isWC ?_; intro sx Ax kx cx hvx hwx))
      refine ⟨by kernel_rfl, ?_⟩
      go_simp
      (with_reducible exact grow_wcc (floor_w n hn24 ivx HFz (Lib.hid (hT.out.keep hex.only))))
    refine owes2_cons (fun wx hox => ?_) ?_
    · skip
      have hex := HE.out.step hox
      obtain ⟨t0, t1, -, -⟩ := WB.cells (Lib.hid hex) 0 rfl
      have ivx := WB.iv (Lib.hid hex) 0 rfl
      have qp := Lib.hid (HQp.out.step hox)
      have qq := Lib.hid (HQq.out.step hox)
      obtain ⟨a0, a1, a2⟩ := QB.cells qp
      obtain ⟨b0, b1, b2⟩ := QB.cells qq
      refine withs_guard rfl rfl ?_
      simp only [withs, List.getElem?_cons_zero, List.getElem?_cons_succ, Option.bind, Option.getD]
      repeat (first | (with_reducible refine all_isV ?_) | (with_reducible refine all_isRD ?_; intro sx Ax kx cx hvx hwx) | (with_reducible refine all_isWC ?_; intro sx Ax kx cx hvx hwx))
      refine ⟨by kernel_rfl, ?_⟩
      go_simp
      exact ⟨Only.refl _ _, isV.self _ _⟩
    refine owes2_cons (fun wx hox => ?_) ?_
    · skip
      have hex := HE.out.step hox
      obtain ⟨t0, t1, -, -⟩ := WB.cells (Lib.hid hex) 0 rfl
      have ivx := WB.iv (Lib.hid hex) 0 rfl
      have qp := Lib.hid (HQp.out.step hox)
      have qq := Lib.hid (HQq.out.step hox)
      obtain ⟨a0, a1, a2⟩ := QB.cells qp
      obtain ⟨b0, b1, b2⟩ := QB.cells qq
      refine withs_guard rfl rfl ?_
      simp only [withs, List.getElem?_cons_zero, List.getElem?_cons_succ, Option.bind, Option.getD]
      repeat (first | (with_reducible refine all_isV ?_) | (with_reducible refine all_isRD ?_; intro sx Ax kx cx hvx hwx) | (with_reducible refine all_isWC ?_; intro sx Ax kx cx hvx hwx))
      refine ⟨by kernel_rfl, ?_⟩
      go_simp
      exact ⟨Only.refl _ _, isV.self _ _⟩
    refine owes2_cons (fun wx hox => ?_) ?_
    · skip
      have hex := HE.out.step hox
      obtain ⟨t0, t1, -, -⟩ := WB.cells (Lib.hid hex) 0 rfl
      have ivx := WB.iv (Lib.hid hex) 0 rfl
      have qp := Lib.hid (HQp.out.step hox)
      have qq := Lib.hid (HQq.out.step hox)
      obtain ⟨a0, a1, a2⟩ := QB.cells qp
      obtain ⟨b0, b1, b2⟩ := QB.cells qq
      refine withs_guard rfl rfl ?_
      simp only [withs, List.getElem?_cons_zero, List.getElem?_cons_succ, Option.bind, Option.getD]
      repeat (first | (with_reducible refine all_isV ?_) | (with_reducible refine all_isRD ?_; intro sx Ax kx cx hvx hwx) | (with_reducible refine all_isWC ?_; intro sx Ax kx cx hvx hwx))
      refine ⟨by kernel_rfl, ?_⟩
      go_simp
      (with_reducible exact grow_rd (rfloorV_d _ HFl.out (QB.rd qp) (QB.rd qq) BP BQ (by omega) HPe.out HQe.out HQ0.out))
    refine owes2_cons (fun wx hox => ?_) ?_
    · skip
      have hex := HE.out.step hox
      obtain ⟨t0, t1, -, -⟩ := WB.cells (Lib.hid hex) 0 rfl
      have ivx := WB.iv (Lib.hid hex) 0 rfl
      have qp := Lib.hid (HQp.out.step hox)
      have qq := Lib.hid (HQq.out.step hox)
      obtain ⟨a0, a1, a2⟩ := QB.cells qp
      obtain ⟨b0, b1, b2⟩ := QB.cells qq
      refine withs_guard rfl rfl ?_
      simp only [withs, List.getElem?_cons_zero, List.getElem?_cons_succ, Option.bind, Option.getD]
      repeat (first | (with_reducible refine all_isV ?_) | (with_reducible refine all_isRD ?_; intro sx Ax kx cx hvx hwx) | (with_reducible refine all_isWC ?_; intro sx Ax kx cx hvx hwx))
      refine ⟨by kernel_rfl, ?_⟩
      go_simp
      (with_reducible exact grow_of (is2_w (by assumption) (by assumption) (RD.of (by assumption) (by assumption)) BF (by omega)))
    refine owes2_cons (fun wx hox => ?_) ?_
    · skip
      skip
      refine withs_plain rfl ?_
      simp only [withs, List.getElem?_cons_zero, List.getElem?_cons_succ, Option.bind, Option.getD]
      repeat (first | (with_reducible refine all_isV ?_) | (with_reducible refine all_isRD ?_; intro sx Ax kx cx hvx hwx) | (with_reducible refine all_isWC ?_; intro sx Ax kx cx hvx hwx))
      go_simp
      exact ⟨Only.refl _ _, isV.self _ _⟩
    refine owes2_cons (fun wx hox => ?_) ?_
    · skip
      skip
      refine withs_plain rfl ?_
      simp only [withs, List.getElem?_cons_zero, List.getElem?_cons_succ, Option.bind, Option.getD]
      repeat (first | (with_reducible refine all_isV ?_) | (with_reducible refine all_isRD ?_; intro sx Ax kx cx hvx hwx) | (with_reducible refine all_isWC ?_; intro sx Ax kx cx hvx hwx))
      go_simp
      exact ⟨Only.refl _ _, isV.self _ _⟩
    exact owes2_nil
  case he =>
    intro wx hox
    refine withs_of (by simp only [List.length, List.range, List.range.loop]; exact rfl) ?_
    simp only [withs, List.getElem?_cons_zero, List.getElem?_cons_succ, Option.bind, Option.getD]
    repeat (first | (with_reducible refine all_isV ?_) | (with_reducible refine all_isRD ?_; intro sx Ax kx cx hvx hwx) | (with_reducible refine all_isWC ?_; intro sx Ax kx cx hvx hwx))
    go_simp
    go_wp2_with fail
    go_ret
    exact ⟨rfl, HE.out.only.nil_trans hox⟩
  case hl =>
    repeat (refine List.forall_mem_cons.2 ⟨?_, ?_⟩; first | exact isV.lasts _ | exact isRD.lasts _ | exact isRN.lasts _ | exact isD.lasts _ | exact isNV.lasts _ | exact isDV.lasts _ | exact isWV.lasts _ | exact isWC.lasts _ | exact isNR.lasts _ _ | exact isWR.lasts _ _ | exact isRow.lasts _ _ _ | exact isPtr.lasts _ _ _ | exact isRow1.lasts _)
    exact fun _ h => (by cases h)
theorem lim_two {n k N : Nat} (h : Lim n k) (hN : N = 64 * k) : n < 2 ^ N := by
  subst hN
  rw [← bb_two_pow]
  exact h
theorem wholeShifts_any (neg : Bool) (A : Option Addr) (c : Nat) (xs : List Nat) (n : Int) (w : World) (hA : LimbsIn w A xs) (hc : xs.length ≤ c) (_ : c ≤ maxLen) (_ : (Lit.int .i64 n).wf = true) (htab : Tab w) (htab6 : Tab6 w) :
    Calls Tryd.prog 5 #[.bool neg, .slice A xs.length c, .int .i64 n] w fun e w' => e = .returned (.bool true) ∧ Only [] w w' := by
  cases hl : lightB [⟨A, xs.length, c⟩] with
  | false => exact wshifts_out neg A _ c n w htab hl
  | true =>
    have h2 : xs.length ≤ 40 := by simpa [lightB] using hl
    have ha : IV w (.agg #[.bool neg, .slice A xs.length c]) (sg neg (val xs)) := IV.mk (NV.mk ⟨hA.1, hA.2, by omega⟩ hc (by omega))
    by_cases h0 : n < 0 ∨ 16777216 < n
    · exact wshifts_far neg A _ c _ n w htab (Lib.hid hl) ha h0
    · by_cases h1 : 5000 < n
      · exact wshifts_mid neg A _ c _ n w htab (Lib.hid hl) ha h1 (by omega)
      · obtain ⟨k, rfl⟩ : ∃ k : Nat, n = (k : Int) := ⟨n.toNat, by omega⟩
        obtain ⟨N0, hN0⟩ : ∃ N0, N0 = 64 * 40 := ⟨_, rfl⟩
        refine wshifts_in neg A _ c k N0 _ w htab htab6 (Lib.hid hl) ha ?_ hN0 (by omega)
        show _ < _
        rw [sg_abs]
        exact lim_two (Lim.val hA.2 h2) hN0
end Go.Proofs.YtafipkighpjknaaDoor
