/-
  DyadTops: the walk.
-/
import Derived.Test.YtcknigodcjjahaaDoorLawDyA
import Derived.Test.YtcknigodcjjahaaDoorGRd
namespace Go.Proofs.YtcknigodcjjahaaDoor
set_option linter.unusedSimpArgs false
open Go.RowKit

theorem rrefV_d {w : World} {a : Value} {x : Dy} {N : Nat} (r : Dy) (hr : nrm x.z x.e = r) (ha : Hid (DV w a x)) (bx : Hid (Bnd N x)) (hN : N ≤ 8000000) : Calls Tryd.prog 61 #[a] w (RDP r w) := hr ▸ rref_d ha bx hN
theorem makeV_d {w : World} {m : Value} {z e : Int} (r : Dy) (hr : nrm z e = r) (ha : Hid (IV w m z)) (hb : Hid (bitsN z.natAbs ≤ 16777216)) (h1 : -4000000000000000000 ≤ e) (h2 : e ≤ 4000000000000000000) (hT : Hid (Tab6 w)) : Calls Tryd.prog 64 #[m, .int .i64 e] w (DPost r w) := hr ▸ make_d ha hb h1 h2 hT
theorem nrm_one : nrm 1 0 = ⟨1, 0⟩ := by
  rw [nrm_nz 0 (by decide)]
  have h : lowN (1 : Int).natAbs = 0 := lowN_odd (by decide)
  rw [h]
  rfl
theorem bits_div {n : Nat} (h : n ≠ 0) : bitsN (n / 2 ^ lowN n) + lowN n = bitsN n := by
  obtain ⟨m, hm⟩ := lowN_spec h
  obtain ⟨b, h1, h2, h3⟩ := bitsN_spec h
  have hl := lowN_lt h
  have hp : 0 < 2 ^ lowN n := Nat.pow_pos (by omega)
  have e1 : bitsN (n / 2 ^ lowN n) ≤ b + 1 - lowN n := bitsN_le (by rw [Nat.div_lt_iff_lt_mul hp, ← Nat.pow_add, show b + 1 - lowN n + lowN n = b + 1 by omega]; exact h3)
  have e2 : b - lowN n + 1 ≤ bitsN (n / 2 ^ lowN n) := bitsN_ge (by rw [Nat.le_div_iff_mul_le hp, ← Nat.pow_add, show b - lowN n + lowN n = b by omega]; exact h2)
  omega
theorem topD_nrm (z e : Int) : topD (nrm z e) = topD ⟨z, e⟩ := by
  by_cases h : z = 0
  · subst h; rfl
  · obtain ⟨m, h1, h2, h3⟩ := nrm_split h
    have hb := bits_div (n := z.natAbs) (by omega)
    rw [nrm_nz e h]
    unfold topD
    simp only [sg_abs]
    rw [if_neg h, if_neg (by intro hc; rw [hc] at h3; simp at h3; omega)]
    omega
theorem topD_not (x : Dy) : topD (dNot x) = topD x := by
  unfold dNot
  rw [topD_nrm]
  unfold topD
  simp only [Int.natAbs_neg, Int.neg_eq_zero]
theorem cmpQ_ge {a b : Rat} (h : b ≤ a) : 0 ≤ cmpQ a b := by
  rcases rat_tri a b with h1 | h1 | h1
  · exact absurd h1 (by grind)
  · rw [cmpQ_eq h1]; omega
  · rw [cmpQ_gt h1]; omega
theorem one_q (e : Int) : (nrm 1 e).q = p2 e := by
  rw [nrm_q]
  show (1 : Rat) * p2 e = p2 e
  grind
set_option maxHeartbeats 16000000 in
set_option maxRecDepth 100000 in
theorem dtops_out (n1 : Bool) (A1 : Option Addr) (L1 : List Nat) (c1 : Nat) (e1 : Int) (w : World) (htab : Hid (Tab w)) (hT : Hid (Tab6 w)) (hl : lightN [⟨n1, A1, L1.length, c1, e1⟩] = false) :
    Calls Tryd.prog 7 #[.agg #[.bool n1, .slice A1 L1.length c1, .int .i64 e1]] w fun e w' => e = .returned (.bool true) ∧ Only [] w w' := by
  have HL := Lib.hid hl
  clear hl
  have hlv := light3_v (w := w.alloc (.cells #[.bool n1, .slice A1 L1.length c1, .int .i64 e1] 77)) [⟨n1, A1, L1.length, c1, e1⟩] 1 (Lib.hid rfl) (by omega)
  rw [HL.out] at hlv
  simp only [flatN, List.flatMap_cons, List.flatMap_nil, List.cons_append, List.nil_append, List.append_nil, World.size_alloc] at hlv
  have hk := (KB.start w).new 77 [.bool n1, .slice A1 L1.length c1, .int .i64 e1]
  have HK := Lib.hid hk
  have HLV := Lib.hid hlv
  obtain ⟨i0, i1, i2, -, -, -⟩ := hk.c3 0 rfl
  clear hlv hk HL
  go_enter Tryd.func7, Tryd.ntmps7
  go_wp2_with fail
  (with_reducible refine HLV.out.mono ?_)
  rintro e w1 ⟨rfl, ho⟩
  replace HK := Lib.hid (HK.out.step ho)
  clear ho i0 i1 i2
  go_wp2_with fail
  (with_reducible refine (alive3_any _ (Lib.hid (htab.out.only HK.out.only)) (Lib.hid (hT.out.keep HK.out.only))).mono ?_)
  rintro e w2 ⟨rfl, ho⟩
  replace HK := Lib.hid (HK.out.step ho)
  clear ho
  go_wp2_with fail
  go_ret
  exact ⟨rfl, HK.out.only⟩
set_option maxHeartbeats 16000000 in
set_option maxRecDepth 100000 in
theorem dtops_in (n1 : Bool) (A1 : Option Addr) (L1 : List Nat) (c1 : Nat) (x : Dy) (w : World) (HZ1 : Hid (sg n1 (val L1) = x.z)) (H1 : Hid (LimbsIn w A1 L1)) (htab : Hid (Tab w)) (hT : Hid (Tab6 w)) (hl1 : (L1.length : Int) ≤ 40) (he1 : -3000 ≤ x.e ∧ x.e ≤ 3000) :
    Calls Tryd.prog 7 #[.agg #[.bool n1, .slice A1 L1.length c1, .int .i64 x.e]] w fun e w' => e = .returned (.bool true) ∧ Only [] w w' := by
  have HL : Hid (lightN [⟨n1, A1, L1.length, c1, x.e⟩] = true) := by
    show _ = _
    simp only [lightN, List.all_cons, List.all_nil, NR.ok, Bool.and_true, Bool.and_eq_true, decide_eq_true_eq]
    omega
  obtain ⟨N, hN⟩ : ∃ N : Nat, N = 3000 := ⟨_, rfl⟩
  have BX : Hid (Bnd N x) := num_bnd (by omega) (by omega) H1.out.2 HZ1.out he1.1 he1.2
  have hN3 : N ≤ 3000 := by omega
  obtain ⟨t, ht⟩ : ∃ t, topD x = t := ⟨_, rfl⟩
  have hb9 : bitsN x.z.natAbs ≤ N := bitsN_le BX.out.z
  have ht1 : -6000 ≤ t := by rw [← ht]; unfold topD; split <;> omega
  have ht2 : t ≤ 6000 := by rw [← ht]; unfold topD; split <;> omega
  obtain ⟨r, hr⟩ : ∃ r, nrm x.z x.e = r := ⟨_, rfl⟩
  have HRr := Lib.hid hr
  have HTx := Lib.hid ht
  have HTN : Hid (topD (dNot x) = t) := (topD_not x).trans ht
  have BNX : Hid (Bnd (2 * N) (dNot x)) := BX.out.not (Nat.le_refl _)
  have BR : Hid (Bnd (2 * N) r) := by rw [← hr]; exact BX.out.norm (Nat.le_refl _)
  have BR2 : Hid (Bnd (4 * N) (dNot x)) := BNX.out.mono (by omega)
  have BNR : Hid (Bnd (4 * N) (dNot r)) := BR.out.not (by omega)
  have CR2 : Hid (Can (dNot x)) := dNot_can x
  have HR2 : Hid (nrm (dNot x).z (dNot x).e = dNot x) := CR2.out.nrm_self
  have HE2 : Hid (dNot x = dNot r) := Can.ext (dNot_can _) (dNot_can _) (by rw [dNot_q, dNot_q, ← hr, nrm_q]; rfl)
  obtain ⟨rs, hrs⟩ : ∃ k, r.z.sign = k := ⟨_, rfl⟩
  have hrx : rs = x.z.sign := by rw [← hrs, ← hr, nrm_sign]
  have HRs := Lib.hid hrs
  clear hrs
  have hlv := light3_v (w := w.alloc (.cells #[.bool n1, .slice A1 L1.length c1, .int .i64 x.e] 77)) [⟨n1, A1, L1.length, c1, x.e⟩] 1 (Lib.hid rfl) (by omega)
  rw [HL.out] at hlv
  simp only [flatN, List.flatMap_cons, List.flatMap_nil, List.cons_append, List.nil_append, List.append_nil, World.size_alloc] at hlv
  have hk := (KB.start w).new 77 [.bool n1, .slice A1 L1.length c1, .int .i64 x.e]
  have HK := Lib.hid hk
  have HLV := Lib.hid hlv
  obtain ⟨i0, i1, i2, -, -, -⟩ := hk.c3 0 rfl
  replace H1 := Lib.hid (H1.out.only hk.only)
  clear hlv hk HL hN hr hb9 ht
  by_cases hx0 : x.z = 0
  · have hrs0 : rs = 0 := by rw [hrx, hx0]; rfl
    have ht0 : t = 0 := by rw [← HTx.out]; unfold topD; rw [if_pos hx0]
    subst hrs0 ht0
    clear hx0 hrx
    go_enter Tryd.func7, Tryd.ntmps7
    go_wp2_with fail
    (with_reducible refine HLV.out.mono ?_)
    rintro e w1 ⟨rfl, ho⟩
    replace HK := Lib.hid (HK.out.step ho)
    replace H1 := Lib.hid (H1.out.only ho)
    clear ho i0 i1 i2
    go_wp2_with fail
    (with_reducible refine (alive3_any _ (Lib.hid (htab.out.only HK.out.only)) (Lib.hid (hT.out.keep HK.out.only))).mono ?_)
    rintro e w2 ⟨rfl, ho⟩
    replace HK := Lib.hid (HK.out.step ho)
    replace H1 := Lib.hid (H1.out.only ho)
    clear ho
    obtain ⟨i0, i1, i2, -, -, -⟩ := HK.out.c3 0 rfl
    go_wp2_with fail
    (with_reducible refine (numOfV_any n1 A1 L1 c1 x _ HZ1.out H1 hl1).mono ?_)
    rintro e w3 ⟨s3, A3, k3, c3, rfl, hv, ho⟩
    have HE := Lib.hid (((DB.start w).step (HK.out.only.nil_trans ho)).new hv)
    clear hv ho i0 i1 i2 HK H1
    obtain ⟨i0, i1, i2, -, -, -⟩ := DB.cells HE 0 rfl
    go_wp2_with fail
    (with_reducible refine (rrefV_d r HRr.out (DB.dv HE 0 rfl) BX (by omega)).mono ?_)
    rintro e w5 ⟨s7, A7, k7, c7, rfl, hc, hv, ho⟩
    have HQ := Lib.hid (QB.new hv hc)
    have he := (HE.out.step ho).step ((Only.refl [] w5).alloc (.cells #[.bool s7, .slice A7 k7 c7, .int .i64 r.e] 53))
    replace HE := Lib.hid he
    clear hc hv ho he
    clear i0 i1 i2
    obtain ⟨i0, i1, i2, -, -, -⟩ := DB.cells HE 0 rfl
    go_wp2_with fail
    (with_reducible refine (topV_d 0 (DB.dv HE 0 rfl) BX (by omega) HTx.out).mono ?_)
    rintro e w5 ⟨rfl, ho⟩
    replace HE := Lib.hid (HE.out.step ho)
    replace HQ := Lib.hid (HQ.out.step ho)
    clear ho
    clear i0 i1 i2
    obtain ⟨q0, q1, q2⟩ := QB.cells HQ
    go_wp2_with fail
    (with_reducible refine (rsign_d 0 (QB.rd HQ) HRs.out).mono ?_)
    rintro e w5 ⟨rfl, ho⟩
    replace HE := Lib.hid (HE.out.step ho)
    replace HQ := Lib.hid (HQ.out.step ho)
    clear ho
    skip
    clear q0 q1 q2
    obtain ⟨i0, i1, i2, -, -, -⟩ := DB.cells HE 0 rfl
    go_wp2_with fail
    (with_reducible refine (not_d (DB.dv HE 0 rfl) BX (by omega) (Lib.hid (hT.out.keep HE.out.only))).mono ?_)
    rintro e w5 ⟨s8, A8, k8, c8, rfl, -, -, hv, ho⟩
    replace HE := Lib.hid (HE.out.step ho)
    have HV8 := Lib.hid hv
    clear hv ho i0 i1 i2
    go_wp2_with fail
    (with_reducible refine (topV_d (x := dNot x) 0 (DV.of HV8) BNX (by omega) HTN.out).mono ?_)
    rintro e w6 ⟨rfl, ho⟩
    replace HE := Lib.hid (HE.out.step ho)
    clear ho
    go_wp2_with fail
    go_ret
    exact ⟨rfl, HE.out.only⟩
  · have hrn : (rs == 0) = false := by rw [hrx, beq_eq_false_iff_ne]; intro hc; exact hx0 (Int.sign_eq_zero_iff_zero.1 hc)
    have HI1 : Hid (-9223372036854775808 ≤ (1 : Int) ∧ (1 : Int) ≤ 9223372036854775807) := by show _ ∧ _; omega
    have HB1 : Hid (bitsN (1 : Int).natAbs ≤ 16777216) := bits_few (N := 1) (by decide) (by omega)
    obtain ⟨up, hup⟩ : ∃ d, nrm 1 t = d := ⟨_, rfl⟩
    obtain ⟨hf, hhf⟩ : ∃ d, nrm 1 (t - 1) = d := ⟨_, rfl⟩
    have HUP := Lib.hid hup
    have HHF := Lib.hid hhf
    have hK : 6002 ≤ 4 * N + 6002 := by omega
    have BU : Hid (Bnd (4 * N + 6002) up) := by rw [← hup]; exact bnd_nrm (K := 1) (M := 6001) (by decide) (by omega) (by omega) (by omega)
    have BH : Hid (Bnd (4 * N + 6002) hf) := by rw [← hhf]; exact bnd_nrm (K := 1) (M := 6001) (by decide) (by omega) (by omega) (by omega)
    have hqu : up.q = p2 t := by rw [← hup]; exact one_q t
    have hqh : hf.q = p2 (t - 1) := by rw [← hhf]; exact one_q (t - 1)
    have hts := top_spec hx0
    rw [HTx.out] at hts
    by_cases hneg : x.z < 0
    · obtain ⟨t1, t2⟩ := hts.2 hneg
      have BM : Hid (Bnd (4 * N + 6002) (dNot x)) := BNX.out.mono (by omega)
      obtain ⟨ca, hca⟩ : ∃ k, cmpQ (dNot x).q up.q = k := ⟨_, rfl⟩
      obtain ⟨cb, hcb⟩ : ∃ k, cmpQ (dNot x).q hf.q = k := ⟨_, rfl⟩
      have hca1 : decide (ca < 0) = true := by rw [← hca, dNot_q, hqu, cmpQ_lt t2]; decide
      have hcb1 : decide (0 ≤ cb) = true := by rw [← hcb, dNot_q, hqh]; exact decide_eq_true (cmpQ_ge t1)
      have HCA := Lib.hid hca
      have HCB := Lib.hid hcb
      have HPX : Hid (x.z.sign = -1) := Int.sign_eq_neg_one_of_neg hneg
      clear hup hhf hqu hqh hts hneg t1 t2 hca hcb hx0 hrx hK
      go_enter Tryd.func7, Tryd.ntmps7
      go_wp2_with fail
      (with_reducible refine HLV.out.mono ?_)
      rintro e w1 ⟨rfl, ho⟩
      replace HK := Lib.hid (HK.out.step ho)
      replace H1 := Lib.hid (H1.out.only ho)
      clear ho i0 i1 i2
      go_wp2_with fail
      (with_reducible refine (alive3_any _ (Lib.hid (htab.out.only HK.out.only)) (Lib.hid (hT.out.keep HK.out.only))).mono ?_)
      rintro e w2 ⟨rfl, ho⟩
      replace HK := Lib.hid (HK.out.step ho)
      replace H1 := Lib.hid (H1.out.only ho)
      clear ho
      obtain ⟨i0, i1, i2, -, -, -⟩ := HK.out.c3 0 rfl
      go_wp2_with fail
      (with_reducible refine (numOfV_any n1 A1 L1 c1 x _ HZ1.out H1 hl1).mono ?_)
      rintro e w3 ⟨s3, A3, k3, c3, rfl, hv, ho⟩
      have HE := Lib.hid (((DB.start w).step (HK.out.only.nil_trans ho)).new hv)
      clear hv ho i0 i1 i2 HK H1
      obtain ⟨i0, i1, i2, -, -, -⟩ := DB.cells HE 0 rfl
      go_wp2_with fail
      (with_reducible refine (rrefV_d r HRr.out (DB.dv HE 0 rfl) BX (by omega)).mono ?_)
      rintro e w5 ⟨s7, A7, k7, c7, rfl, hc, hv, ho⟩
      have HQ := Lib.hid (QB.new hv hc)
      have he := (HE.out.step ho).step ((Only.refl [] w5).alloc (.cells #[.bool s7, .slice A7 k7 c7, .int .i64 r.e] 53))
      replace HE := Lib.hid he
      clear hc hv ho he
      clear i0 i1 i2
      obtain ⟨i0, i1, i2, -, -, -⟩ := DB.cells HE 0 rfl
      go_wp2_with fail
      (with_reducible refine (topV_d t (DB.dv HE 0 rfl) BX (by omega) HTx.out).mono ?_)
      rintro e w5 ⟨rfl, ho⟩
      replace HE := Lib.hid (HE.out.step ho)
      replace HQ := Lib.hid (HQ.out.step ho)
      clear ho
      clear i0 i1 i2
      obtain ⟨q0, q1, q2⟩ := QB.cells HQ
      go_wp2_with fail
      (with_reducible refine (rsign_d rs (QB.rd HQ) HRs.out).mono ?_)
      rintro e w5 ⟨rfl, ho⟩
      replace HE := Lib.hid (HE.out.step ho)
      replace HQ := Lib.hid (HQ.out.step ho)
      clear ho
      skip
      clear q0 q1 q2
      go_wp2_with fail
      (with_reducible refine (ofV_d 1 ⟨1, 0⟩ _ nrm_one HI1 (Lib.hid (hT.out.keep HE.out.only))).mono ?_)
      rintro e w5 ⟨s6, A6, k6, c6, rfl, -, -, hv, ho⟩
      have HV6 : Hid (IV w5 (.agg #[.bool s6, .slice A6 k6 c6]) 1) := hv
      have hfl : (Instr.field 80 (.agg #[.bool s6, .slice A6 k6 c6, .int .i64 0]) 0).run Tryd.prog w5 = .ok (.agg #[.bool s6, .slice A6 k6 c6]) w5 := by kernel_rfl
      replace HE := Lib.hid (HE.out.step ho)
      replace HQ := Lib.hid (HQ.out.step ho)
      clear hv ho
      
      go_wp2_with fail
      (with_reducible refine (makeV_d up HUP.out HV6 HB1 (by omega) (by omega) (Lib.hid (hT.out.keep HE.out.only))).mono ?_)
      rintro e w5 ⟨s5, A5, k5, c5, rfl, -, -, hv, ho⟩
      replace HE := Lib.hid ((HE.out.step ho).new hv)
      replace HQ := Lib.hid ((HQ.out.step ho).step ((Only.refl [] w5).alloc (.cells #[.bool s5, .slice A5 k5 c5, .int .i64 up.e] 80)))
      clear hv ho
      skip
      go_upto_region 9 with fail
      generalize w5.heap.size = g6 at *
      generalize w5.alloc _ = w5 at *
      obtain ⟨i0, i1, i2, -, -, -⟩ := DB.cells HE 1 rfl
      have hcp := HE.out.new (DB.iv HE 1 rfl).out
      have hqp := HQ.out.step ((Only.refl [] w5).alloc (.cells #[.bool s3, .slice A3 k3 c3, .int .i64 x.e] 80))
      have HGne := Lib.hid (Nat.ne_of_lt HQ.out.blk.lt)
      replace HE := Lib.hid hcp
      replace HQ := Lib.hid hqp
      clear hcp hqp
      go_upto_region 10 with fail
      clear i0 i1 i2
      generalize w5.heap.size = g7 at *
      generalize w5.alloc _ = w6 at *
      obtain ⟨i0, i1, i2, -, -, -⟩ := DB.cells HE 2 rfl
      go_wp2_with fail
      (with_reducible refine (signV_d (-1) (DB.dv HE 2 rfl) HPX.out).mono ?_)
      rintro e w5 ⟨rfl, ho⟩
      replace HE := Lib.hid (HE.out.step ho)
      replace HQ := Lib.hid (HQ.out.step ho)
      clear ho
      clear i0 i1 i2
      obtain ⟨k0, k1, k2, -, -, -⟩ := DB.cells HE 2 rfl
      go_wp2_with fail
      (with_reducible refine (not_d (DB.dv HE 2 rfl) BX (by omega) (Lib.hid (hT.out.keep HE.out.only))).mono ?_)
      rintro e w5 ⟨s8, A8, k8, c8, rfl, -, -, hv, ho⟩
      replace HE := Lib.hid (HE.out.step ho)
      replace HQ := Lib.hid (HQ.out.step ho)
      clear ho k0 k1 k2
      obtain ⟨j0, j1, j2, f0, f1, f2⟩ := DB.cells HE 0 rfl
      have hput := HE.out.put 0 rfl hv
      have hfar := HQ.out.far (only_set3 w5 _ (.bool s8) (.slice A8 k8 c8) (.int .i64 (dNot x).e)) HGne.out (HE.out.all 0 _ rfl).1 (noLimb3 _ _ _ _ _)
      have HE7 := Lib.hid hput
      have HQ7 := Lib.hid hfar
      clear hv hput hfar
      go_upto_region 12 with fail
      clear j0 j1 j2 f0 f1 f2
      generalize ((w5.setCell _ _).setCell _ _).setCell _ _ = w5 at *
      have HE := HE7
      have HQ := HQ7
      clear HE7 HQ7
      
      go_wp2_with fail
      (with_reducible refine (ofV_d 1 ⟨1, 0⟩ _ nrm_one HI1 (Lib.hid (hT.out.keep HE.out.only))).mono ?_)
      rintro e w5 ⟨s6, A6, k6, c6, rfl, -, -, hv, ho⟩
      have HV6 : Hid (IV w5 (.agg #[.bool s6, .slice A6 k6 c6]) 1) := hv
      have hfl : (Instr.field 80 (.agg #[.bool s6, .slice A6 k6 c6, .int .i64 0]) 0).run Tryd.prog w5 = .ok (.agg #[.bool s6, .slice A6 k6 c6]) w5 := by kernel_rfl
      replace HE := Lib.hid (HE.out.step ho)
      replace HQ := Lib.hid (HQ.out.step ho)
      clear hv ho
      
      go_wp2_with fail
      (with_reducible refine (makeV_d hf HHF.out HV6 HB1 (by omega) (by omega) (Lib.hid (hT.out.keep HE.out.only))).mono ?_)
      rintro e w5 ⟨s5, A5, k5, c5, rfl, -, -, hv, ho⟩
      replace HE := Lib.hid ((HE.out.step ho).new hv)
      replace HQ := Lib.hid ((HQ.out.step ho).step ((Only.refl [] w5).alloc (.cells #[.bool s5, .slice A5 k5 c5, .int .i64 hf.e] 80)))
      clear hv ho
      skip
      go_upto_region 13 with fail
      generalize w5.heap.size = g8 at *
      generalize w5.alloc _ = w5 at *
      apply wp_region_typed2 (by kernel_rfl) [isV _, isV _, isV _, isV _, isV _, isV _, isV _, isV _, isV _, isV _, isV _, isV _, isV _, isD (dNot x), isV _, isV _, isV _, isV _, isV _, isD (dNot x), isRD (dNot x), isV _, isRD (dNot r), isV _, isV _, isV _] [[], [], [0, 1], [2], [3], [4], [4], [4, 5, 6], [4, 7], [4, 8], [9], [10], [10], [10, 12], [10, 13], [10, 11, 14], [10, 15], [16], [17], [17, 18], [17, 19], [17], [17, 21], [17, 20, 22], [17, 23], [24]] (by kernel_rfl) (by kernel_rfl)
      case ho =>
        refine owes2_cons (fun wx hox => ?_) ?_
        · skip
          have he := Lib.hid (HE.out.step hox)
          have htx := Lib.hid (hT.out.keep he.out.only)
          obtain ⟨i0, i1, i2, -, -, -⟩ := DB.cells he 0 rfl
          have ivi := DB.iv he 0 rfl
          obtain ⟨j0, j1, j2, -, -, -⟩ := DB.cells he 1 rfl
          have ivj := DB.iv he 1 rfl
          obtain ⟨k0, k1, k2, -, -, -⟩ := DB.cells he 2 rfl
          have ivk := DB.iv he 2 rfl
          obtain ⟨l0, l1, l2, -, -, -⟩ := DB.cells he 3 rfl
          have ivl := DB.iv he 3 rfl
          obtain ⟨q0, q1, q2⟩ := QB.cells (Lib.hid (HQ.out.step hox))
          clear he
          refine withs_plain rfl ?_
          simp only [withs, List.getElem?_cons_zero, List.getElem?_cons_succ, Option.bind, Option.getD]
          repeat (first | (with_reducible refine all_isV ?_) | (with_reducible refine all_isRD ?_; intro sx Ax kx cx hvx hwx) | (with_reducible refine all_isRN ?_; intro Ax kx cx hvx) | (with_reducible refine all_isD ?_; intro sx Ax kx cx hvx hwx))
          go_simp
          exact ⟨Only.refl _ _, isV.self _ _⟩
        refine owes2_cons (fun wx hox => ?_) ?_
        · skip
          have he := Lib.hid (HE.out.step hox)
          have htx := Lib.hid (hT.out.keep he.out.only)
          obtain ⟨i0, i1, i2, -, -, -⟩ := DB.cells he 0 rfl
          have ivi := DB.iv he 0 rfl
          obtain ⟨j0, j1, j2, -, -, -⟩ := DB.cells he 1 rfl
          have ivj := DB.iv he 1 rfl
          obtain ⟨k0, k1, k2, -, -, -⟩ := DB.cells he 2 rfl
          have ivk := DB.iv he 2 rfl
          obtain ⟨l0, l1, l2, -, -, -⟩ := DB.cells he 3 rfl
          have ivl := DB.iv he 3 rfl
          obtain ⟨q0, q1, q2⟩ := QB.cells (Lib.hid (HQ.out.step hox))
          clear he
          refine withs_plain rfl ?_
          simp only [withs, List.getElem?_cons_zero, List.getElem?_cons_succ, Option.bind, Option.getD]
          repeat (first | (with_reducible refine all_isV ?_) | (with_reducible refine all_isRD ?_; intro sx Ax kx cx hvx hwx) | (with_reducible refine all_isRN ?_; intro Ax kx cx hvx) | (with_reducible refine all_isD ?_; intro sx Ax kx cx hvx hwx))
          go_simp
          exact ⟨Only.refl _ _, isV.self _ _⟩
        refine owes2_cons (fun wx hox => ?_) ?_
        · skip
          have he := Lib.hid (HE.out.step hox)
          have htx := Lib.hid (hT.out.keep he.out.only)
          obtain ⟨i0, i1, i2, -, -, -⟩ := DB.cells he 0 rfl
          have ivi := DB.iv he 0 rfl
          obtain ⟨j0, j1, j2, -, -, -⟩ := DB.cells he 1 rfl
          have ivj := DB.iv he 1 rfl
          obtain ⟨k0, k1, k2, -, -, -⟩ := DB.cells he 2 rfl
          have ivk := DB.iv he 2 rfl
          obtain ⟨l0, l1, l2, -, -, -⟩ := DB.cells he 3 rfl
          have ivl := DB.iv he 3 rfl
          obtain ⟨q0, q1, q2⟩ := QB.cells (Lib.hid (HQ.out.step hox))
          clear he
          refine withs_plain rfl ?_
          simp only [withs, List.getElem?_cons_zero, List.getElem?_cons_succ, Option.bind, Option.getD]
          repeat (first | (with_reducible refine all_isV ?_) | (with_reducible refine all_isRD ?_; intro sx Ax kx cx hvx hwx) | (with_reducible refine all_isRN ?_; intro Ax kx cx hvx) | (with_reducible refine all_isD ?_; intro sx Ax kx cx hvx hwx))
          go_simp
          (with_reducible exact grow_of (cmpV_d (x := dNot x) (y := up) ca (DV.of (by assumption)) (DV.of (by assumption)) BM BU (by omega) HCA.out))
        refine owes2_cons (fun wx hox => ?_) ?_
        · skip
          skip
          refine withs_plain rfl ?_
          simp only [withs, List.getElem?_cons_zero, List.getElem?_cons_succ, Option.bind, Option.getD]
          repeat (first | (with_reducible refine all_isV ?_) | (with_reducible refine all_isRD ?_; intro sx Ax kx cx hvx hwx) | (with_reducible refine all_isRN ?_; intro Ax kx cx hvx) | (with_reducible refine all_isD ?_; intro sx Ax kx cx hvx hwx))
          go_simp
          exact ⟨Only.refl _ _, isV.self _ _⟩
        refine owes2_cons (fun wx hox => ?_) ?_
        · skip
          skip
          refine withs_plain rfl ?_
          simp only [withs, List.getElem?_cons_zero, List.getElem?_cons_succ, Option.bind, Option.getD]
          repeat (first | (with_reducible refine all_isV ?_) | (with_reducible refine all_isRD ?_; intro sx Ax kx cx hvx hwx) | (with_reducible refine all_isRN ?_; intro Ax kx cx hvx) | (with_reducible refine all_isD ?_; intro sx Ax kx cx hvx hwx))
          go_simp
          exact ⟨Only.refl _ _, isV.self _ _⟩
        refine owes2_cons (fun wx hox => ?_) ?_
        · skip
          have he := Lib.hid (HE.out.step hox)
          have htx := Lib.hid (hT.out.keep he.out.only)
          obtain ⟨i0, i1, i2, -, -, -⟩ := DB.cells he 0 rfl
          have ivi := DB.iv he 0 rfl
          obtain ⟨j0, j1, j2, -, -, -⟩ := DB.cells he 1 rfl
          have ivj := DB.iv he 1 rfl
          obtain ⟨k0, k1, k2, -, -, -⟩ := DB.cells he 2 rfl
          have ivk := DB.iv he 2 rfl
          obtain ⟨l0, l1, l2, -, -, -⟩ := DB.cells he 3 rfl
          have ivl := DB.iv he 3 rfl
          obtain ⟨q0, q1, q2⟩ := QB.cells (Lib.hid (HQ.out.step hox))
          clear he
          refine withs_guard rfl rfl ?_
          simp only [withs, List.getElem?_cons_zero, List.getElem?_cons_succ, Option.bind, Option.getD]
          repeat (first | (with_reducible refine all_isV ?_) | (with_reducible refine all_isRD ?_; intro sx Ax kx cx hvx hwx) | (with_reducible refine all_isRN ?_; intro Ax kx cx hvx) | (with_reducible refine all_isD ?_; intro sx Ax kx cx hvx hwx))
          refine ⟨by kernel_rfl, ?_⟩
          go_simp
          exact ⟨Only.refl _ _, isV.self _ _⟩
        refine owes2_cons (fun wx hox => ?_) ?_
        · skip
          have he := Lib.hid (HE.out.step hox)
          have htx := Lib.hid (hT.out.keep he.out.only)
          obtain ⟨i0, i1, i2, -, -, -⟩ := DB.cells he 0 rfl
          have ivi := DB.iv he 0 rfl
          obtain ⟨j0, j1, j2, -, -, -⟩ := DB.cells he 1 rfl
          have ivj := DB.iv he 1 rfl
          obtain ⟨k0, k1, k2, -, -, -⟩ := DB.cells he 2 rfl
          have ivk := DB.iv he 2 rfl
          obtain ⟨l0, l1, l2, -, -, -⟩ := DB.cells he 3 rfl
          have ivl := DB.iv he 3 rfl
          obtain ⟨q0, q1, q2⟩ := QB.cells (Lib.hid (HQ.out.step hox))
          clear he
          refine withs_guard rfl rfl ?_
          simp only [withs, List.getElem?_cons_zero, List.getElem?_cons_succ, Option.bind, Option.getD]
          repeat (first | (with_reducible refine all_isV ?_) | (with_reducible refine all_isRD ?_; intro sx Ax kx cx hvx hwx) | (with_reducible refine all_isRN ?_; intro Ax kx cx hvx) | (with_reducible refine all_isD ?_; intro sx Ax kx cx hvx hwx))
          refine ⟨by kernel_rfl, ?_⟩
          go_simp
          exact ⟨Only.refl _ _, isV.self _ _⟩
        refine owes2_cons (fun wx hox => ?_) ?_
        · skip
          have he := Lib.hid (HE.out.step hox)
          have htx := Lib.hid (hT.out.keep he.out.only)
          obtain ⟨i0, i1, i2, -, -, -⟩ := DB.cells he 0 rfl
          have ivi := DB.iv he 0 rfl
          obtain ⟨j0, j1, j2, -, -, -⟩ := DB.cells he 1 rfl
          have ivj := DB.iv he 1 rfl
          obtain ⟨k0, k1, k2, -, -, -⟩ := DB.cells he 2 rfl
          have ivk := DB.iv he 2 rfl
          obtain ⟨l0, l1, l2, -, -, -⟩ := DB.cells he 3 rfl
          have ivl := DB.iv he 3 rfl
          obtain ⟨q0, q1, q2⟩ := QB.cells (Lib.hid (HQ.out.step hox))
          clear he
          refine withs_guard rfl rfl ?_
          simp only [withs, List.getElem?_cons_zero, List.getElem?_cons_succ, Option.bind, Option.getD]
          repeat (first | (with_reducible refine all_isV ?_) | (with_reducible refine all_isRD ?_; intro sx Ax kx cx hvx hwx) | (with_reducible refine all_isRN ?_; intro Ax kx cx hvx) | (with_reducible refine all_isD ?_; intro sx Ax kx cx hvx hwx))
          refine ⟨by kernel_rfl, ?_⟩
          go_simp
          (with_reducible exact grow_of (cmpV_d (x := dNot x) (y := hf) cb (DV.of (by assumption)) (DV.of (by assumption)) BM BH (by omega) HCB.out))
        refine owes2_cons (fun wx hox => ?_) ?_
        · skip
          skip
          refine withs_guard rfl rfl ?_
          simp only [withs, List.getElem?_cons_zero, List.getElem?_cons_succ, Option.bind, Option.getD]
          repeat (first | (with_reducible refine all_isV ?_) | (with_reducible refine all_isRD ?_; intro sx Ax kx cx hvx hwx) | (with_reducible refine all_isRN ?_; intro Ax kx cx hvx) | (with_reducible refine all_isD ?_; intro sx Ax kx cx hvx hwx))
          refine ⟨by kernel_rfl, ?_⟩
          go_simp
          exact ⟨Only.refl _ _, isV.self _ _⟩
        refine owes2_cons (fun wx hox => ?_) ?_
        · skip
          skip
          refine withs_plain rfl ?_
          simp only [withs, List.getElem?_cons_zero, List.getElem?_cons_succ, Option.bind, Option.getD]
          repeat (first | (with_reducible refine all_isV ?_) | (with_reducible refine all_isRD ?_; intro sx Ax kx cx hvx hwx) | (with_reducible refine all_isRN ?_; intro Ax kx cx hvx) | (with_reducible refine all_isD ?_; intro sx Ax kx cx hvx hwx))
          go_simp
          exact ⟨Only.refl _ _, isV.self _ _⟩
        refine owes2_cons (fun wx hox => ?_) ?_
        · skip
          skip
          refine withs_plain rfl ?_
          simp only [withs, List.getElem?_cons_zero, List.getElem?_cons_succ, Option.bind, Option.getD]
          repeat (first | (with_reducible refine all_isV ?_) | (with_reducible refine all_isRD ?_; intro sx Ax kx cx hvx hwx) | (with_reducible refine all_isRN ?_; intro Ax kx cx hvx) | (with_reducible refine all_isD ?_; intro sx Ax kx cx hvx hwx))
          go_simp
          exact ⟨Only.refl _ _, isV.self _ _⟩
        refine owes2_cons (fun wx hox => ?_) ?_
        · skip
          skip
          refine withs_guard rfl rfl ?_
          simp only [withs, List.getElem?_cons_zero, List.getElem?_cons_succ, Option.bind, Option.getD]
          repeat (first | (with_reducible refine all_isV ?_) | (with_reducible refine all_isRD ?_; intro sx Ax kx cx hvx hwx) | (with_reducible refine all_isRN ?_; intro Ax kx cx hvx) | (with_reducible refine all_isD ?_; intro sx Ax kx cx hvx hwx))
          refine ⟨by kernel_rfl, ?_⟩
          go_simp
          exact ⟨Only.refl _ _, isV.self _ _⟩
        refine owes2_cons (fun wx hox => ?_) ?_
        · skip
          have he := Lib.hid (HE.out.step hox)
          have htx := Lib.hid (hT.out.keep he.out.only)
          obtain ⟨i0, i1, i2, -, -, -⟩ := DB.cells he 0 rfl
          have ivi := DB.iv he 0 rfl
          obtain ⟨j0, j1, j2, -, -, -⟩ := DB.cells he 1 rfl
          have ivj := DB.iv he 1 rfl
          obtain ⟨k0, k1, k2, -, -, -⟩ := DB.cells he 2 rfl
          have ivk := DB.iv he 2 rfl
          obtain ⟨l0, l1, l2, -, -, -⟩ := DB.cells he 3 rfl
          have ivl := DB.iv he 3 rfl
          obtain ⟨q0, q1, q2⟩ := QB.cells (Lib.hid (HQ.out.step hox))
          clear he
          refine withs_guard rfl rfl ?_
          simp only [withs, List.getElem?_cons_zero, List.getElem?_cons_succ, Option.bind, Option.getD]
          repeat (first | (with_reducible refine all_isV ?_) | (with_reducible refine all_isRD ?_; intro sx Ax kx cx hvx hwx) | (with_reducible refine all_isRN ?_; intro Ax kx cx hvx) | (with_reducible refine all_isD ?_; intro sx Ax kx cx hvx hwx))
          refine ⟨by kernel_rfl, ?_⟩
          go_simp
          exact ⟨Only.refl _ _, isV.self _ _⟩
        refine owes2_cons (fun wx hox => ?_) ?_
        · skip
          have he := Lib.hid (HE.out.step hox)
          have htx := Lib.hid (hT.out.keep he.out.only)
          obtain ⟨i0, i1, i2, -, -, -⟩ := DB.cells he 0 rfl
          have ivi := DB.iv he 0 rfl
          obtain ⟨j0, j1, j2, -, -, -⟩ := DB.cells he 1 rfl
          have ivj := DB.iv he 1 rfl
          obtain ⟨k0, k1, k2, -, -, -⟩ := DB.cells he 2 rfl
          have ivk := DB.iv he 2 rfl
          obtain ⟨l0, l1, l2, -, -, -⟩ := DB.cells he 3 rfl
          have ivl := DB.iv he 3 rfl
          obtain ⟨q0, q1, q2⟩ := QB.cells (Lib.hid (HQ.out.step hox))
          clear he
          refine withs_guard rfl rfl ?_
          simp only [withs, List.getElem?_cons_zero, List.getElem?_cons_succ, Option.bind, Option.getD]
          repeat (first | (with_reducible refine all_isV ?_) | (with_reducible refine all_isRD ?_; intro sx Ax kx cx hvx hwx) | (with_reducible refine all_isRN ?_; intro Ax kx cx hvx) | (with_reducible refine all_isD ?_; intro sx Ax kx cx hvx hwx))
          refine ⟨by kernel_rfl, ?_⟩
          go_simp
          (with_reducible exact grow_d (not_d (DV.of (by assumption)) BX (by omega) htx))
        refine owes2_cons (fun wx hox => ?_) ?_
        · skip
          have he := Lib.hid (HE.out.step hox)
          have htx := Lib.hid (hT.out.keep he.out.only)
          obtain ⟨i0, i1, i2, -, -, -⟩ := DB.cells he 0 rfl
          have ivi := DB.iv he 0 rfl
          obtain ⟨j0, j1, j2, -, -, -⟩ := DB.cells he 1 rfl
          have ivj := DB.iv he 1 rfl
          obtain ⟨k0, k1, k2, -, -, -⟩ := DB.cells he 2 rfl
          have ivk := DB.iv he 2 rfl
          obtain ⟨l0, l1, l2, -, -, -⟩ := DB.cells he 3 rfl
          have ivl := DB.iv he 3 rfl
          obtain ⟨q0, q1, q2⟩ := QB.cells (Lib.hid (HQ.out.step hox))
          clear he
          refine withs_guard rfl rfl ?_
          simp only [withs, List.getElem?_cons_zero, List.getElem?_cons_succ, Option.bind, Option.getD]
          repeat (first | (with_reducible refine all_isV ?_) | (with_reducible refine all_isRD ?_; intro sx Ax kx cx hvx hwx) | (with_reducible refine all_isRN ?_; intro Ax kx cx hvx) | (with_reducible refine all_isD ?_; intro sx Ax kx cx hvx hwx))
          refine ⟨by kernel_rfl, ?_⟩
          go_simp
          (with_reducible exact grow_of (topV_d (x := dNot x) t (DV.of (by assumption)) BNX (by omega) HTN.out))
        refine owes2_cons (fun wx hox => ?_) ?_
        · skip
          skip
          refine withs_guard rfl rfl ?_
          simp only [withs, List.getElem?_cons_zero, List.getElem?_cons_succ, Option.bind, Option.getD]
          repeat (first | (with_reducible refine all_isV ?_) | (with_reducible refine all_isRD ?_; intro sx Ax kx cx hvx hwx) | (with_reducible refine all_isRN ?_; intro Ax kx cx hvx) | (with_reducible refine all_isD ?_; intro sx Ax kx cx hvx hwx))
          refine ⟨by kernel_rfl, ?_⟩
          go_simp
          exact ⟨Only.refl _ _, isV.self _ _⟩
        refine owes2_cons (fun wx hox => ?_) ?_
        · skip
          skip
          refine withs_plain rfl ?_
          simp only [withs, List.getElem?_cons_zero, List.getElem?_cons_succ, Option.bind, Option.getD]
          repeat (first | (with_reducible refine all_isV ?_) | (with_reducible refine all_isRD ?_; intro sx Ax kx cx hvx hwx) | (with_reducible refine all_isRN ?_; intro Ax kx cx hvx) | (with_reducible refine all_isD ?_; intro sx Ax kx cx hvx hwx))
          go_simp
          exact ⟨Only.refl _ _, isV.self _ _⟩
        refine owes2_cons (fun wx hox => ?_) ?_
        · skip
          skip
          refine withs_plain rfl ?_
          simp only [withs, List.getElem?_cons_zero, List.getElem?_cons_succ, Option.bind, Option.getD]
          repeat (first | (with_reducible refine all_isV ?_) | (with_reducible refine all_isRD ?_; intro sx Ax kx cx hvx hwx) | (with_reducible refine all_isRN ?_; intro Ax kx cx hvx) | (with_reducible refine all_isD ?_; intro sx Ax kx cx hvx hwx))
          go_simp
          exact ⟨Only.refl _ _, isV.self _ _⟩
        refine owes2_cons (fun wx hox => ?_) ?_
        · skip
          have he := Lib.hid (HE.out.step hox)
          have htx := Lib.hid (hT.out.keep he.out.only)
          obtain ⟨i0, i1, i2, -, -, -⟩ := DB.cells he 0 rfl
          have ivi := DB.iv he 0 rfl
          obtain ⟨j0, j1, j2, -, -, -⟩ := DB.cells he 1 rfl
          have ivj := DB.iv he 1 rfl
          obtain ⟨k0, k1, k2, -, -, -⟩ := DB.cells he 2 rfl
          have ivk := DB.iv he 2 rfl
          obtain ⟨l0, l1, l2, -, -, -⟩ := DB.cells he 3 rfl
          have ivl := DB.iv he 3 rfl
          obtain ⟨q0, q1, q2⟩ := QB.cells (Lib.hid (HQ.out.step hox))
          clear he
          refine withs_guard rfl rfl ?_
          simp only [withs, List.getElem?_cons_zero, List.getElem?_cons_succ, Option.bind, Option.getD]
          repeat (first | (with_reducible refine all_isV ?_) | (with_reducible refine all_isRD ?_; intro sx Ax kx cx hvx hwx) | (with_reducible refine all_isRN ?_; intro Ax kx cx hvx) | (with_reducible refine all_isD ?_; intro sx Ax kx cx hvx hwx))
          refine ⟨by kernel_rfl, ?_⟩
          go_simp
          exact ⟨Only.refl _ _, isV.self _ _⟩
        refine owes2_cons (fun wx hox => ?_) ?_
        · skip
          have he := Lib.hid (HE.out.step hox)
          have htx := Lib.hid (hT.out.keep he.out.only)
          obtain ⟨i0, i1, i2, -, -, -⟩ := DB.cells he 0 rfl
          have ivi := DB.iv he 0 rfl
          obtain ⟨j0, j1, j2, -, -, -⟩ := DB.cells he 1 rfl
          have ivj := DB.iv he 1 rfl
          obtain ⟨k0, k1, k2, -, -, -⟩ := DB.cells he 2 rfl
          have ivk := DB.iv he 2 rfl
          obtain ⟨l0, l1, l2, -, -, -⟩ := DB.cells he 3 rfl
          have ivl := DB.iv he 3 rfl
          obtain ⟨q0, q1, q2⟩ := QB.cells (Lib.hid (HQ.out.step hox))
          clear he
          refine withs_guard rfl rfl ?_
          simp only [withs, List.getElem?_cons_zero, List.getElem?_cons_succ, Option.bind, Option.getD]
          repeat (first | (with_reducible refine all_isV ?_) | (with_reducible refine all_isRD ?_; intro sx Ax kx cx hvx hwx) | (with_reducible refine all_isRN ?_; intro Ax kx cx hvx) | (with_reducible refine all_isD ?_; intro sx Ax kx cx hvx hwx))
          refine ⟨by kernel_rfl, ?_⟩
          go_simp
          (with_reducible exact grow_d (not_d (DV.of (by assumption)) BX (by omega) htx))
        refine owes2_cons (fun wx hox => ?_) ?_
        · skip
          have he := Lib.hid (HE.out.step hox)
          have htx := Lib.hid (hT.out.keep he.out.only)
          obtain ⟨i0, i1, i2, -, -, -⟩ := DB.cells he 0 rfl
          have ivi := DB.iv he 0 rfl
          obtain ⟨j0, j1, j2, -, -, -⟩ := DB.cells he 1 rfl
          have ivj := DB.iv he 1 rfl
          obtain ⟨k0, k1, k2, -, -, -⟩ := DB.cells he 2 rfl
          have ivk := DB.iv he 2 rfl
          obtain ⟨l0, l1, l2, -, -, -⟩ := DB.cells he 3 rfl
          have ivl := DB.iv he 3 rfl
          obtain ⟨q0, q1, q2⟩ := QB.cells (Lib.hid (HQ.out.step hox))
          clear he
          refine withs_guard rfl rfl ?_
          simp only [withs, List.getElem?_cons_zero, List.getElem?_cons_succ, Option.bind, Option.getD]
          repeat (first | (with_reducible refine all_isV ?_) | (with_reducible refine all_isRD ?_; intro sx Ax kx cx hvx hwx) | (with_reducible refine all_isRN ?_; intro Ax kx cx hvx) | (with_reducible refine all_isD ?_; intro sx Ax kx cx hvx hwx))
          refine ⟨by kernel_rfl, ?_⟩
          go_simp
          (with_reducible exact grow_rd (rrefV_d (dNot x) HR2.out (DV.of (by assumption)) BNX (by omega)))
        refine owes2_cons (fun wx hox => ?_) ?_
        · skip
          have he := Lib.hid (HE.out.step hox)
          have htx := Lib.hid (hT.out.keep he.out.only)
          obtain ⟨i0, i1, i2, -, -, -⟩ := DB.cells he 0 rfl
          have ivi := DB.iv he 0 rfl
          obtain ⟨j0, j1, j2, -, -, -⟩ := DB.cells he 1 rfl
          have ivj := DB.iv he 1 rfl
          obtain ⟨k0, k1, k2, -, -, -⟩ := DB.cells he 2 rfl
          have ivk := DB.iv he 2 rfl
          obtain ⟨l0, l1, l2, -, -, -⟩ := DB.cells he 3 rfl
          have ivl := DB.iv he 3 rfl
          obtain ⟨q0, q1, q2⟩ := QB.cells (Lib.hid (HQ.out.step hox))
          clear he
          refine withs_guard rfl rfl ?_
          simp only [withs, List.getElem?_cons_zero, List.getElem?_cons_succ, Option.bind, Option.getD]
          repeat (first | (with_reducible refine all_isV ?_) | (with_reducible refine all_isRD ?_; intro sx Ax kx cx hvx hwx) | (with_reducible refine all_isRN ?_; intro Ax kx cx hvx) | (with_reducible refine all_isD ?_; intro sx Ax kx cx hvx hwx))
          refine ⟨by kernel_rfl, ?_⟩
          go_simp
          exact ⟨Only.refl _ _, isV.self _ _⟩
        refine owes2_cons (fun wx hox => ?_) ?_
        · skip
          have he := Lib.hid (HE.out.step hox)
          have htx := Lib.hid (hT.out.keep he.out.only)
          obtain ⟨i0, i1, i2, -, -, -⟩ := DB.cells he 0 rfl
          have ivi := DB.iv he 0 rfl
          obtain ⟨j0, j1, j2, -, -, -⟩ := DB.cells he 1 rfl
          have ivj := DB.iv he 1 rfl
          obtain ⟨k0, k1, k2, -, -, -⟩ := DB.cells he 2 rfl
          have ivk := DB.iv he 2 rfl
          obtain ⟨l0, l1, l2, -, -, -⟩ := DB.cells he 3 rfl
          have ivl := DB.iv he 3 rfl
          obtain ⟨q0, q1, q2⟩ := QB.cells (Lib.hid (HQ.out.step hox))
          clear he
          refine withs_guard rfl rfl ?_
          simp only [withs, List.getElem?_cons_zero, List.getElem?_cons_succ, Option.bind, Option.getD]
          repeat (first | (with_reducible refine all_isV ?_) | (with_reducible refine all_isRD ?_; intro sx Ax kx cx hvx hwx) | (with_reducible refine all_isRN ?_; intro Ax kx cx hvx) | (with_reducible refine all_isD ?_; intro sx Ax kx cx hvx hwx))
          refine ⟨by kernel_rfl, ?_⟩
          go_simp
          (with_reducible exact grow_rd (rnot_d (QB.rd (Lib.hid (HQ.out.step hox))) BR (by omega)))
        refine owes2_cons (fun wx hox => ?_) ?_
        · skip
          have he := Lib.hid (HE.out.step hox)
          have htx := Lib.hid (hT.out.keep he.out.only)
          obtain ⟨i0, i1, i2, -, -, -⟩ := DB.cells he 0 rfl
          have ivi := DB.iv he 0 rfl
          obtain ⟨j0, j1, j2, -, -, -⟩ := DB.cells he 1 rfl
          have ivj := DB.iv he 1 rfl
          obtain ⟨k0, k1, k2, -, -, -⟩ := DB.cells he 2 rfl
          have ivk := DB.iv he 2 rfl
          obtain ⟨l0, l1, l2, -, -, -⟩ := DB.cells he 3 rfl
          have ivl := DB.iv he 3 rfl
          obtain ⟨q0, q1, q2⟩ := QB.cells (Lib.hid (HQ.out.step hox))
          clear he
          refine withs_guard rfl rfl ?_
          simp only [withs, List.getElem?_cons_zero, List.getElem?_cons_succ, Option.bind, Option.getD]
          repeat (first | (with_reducible refine all_isV ?_) | (with_reducible refine all_isRD ?_; intro sx Ax kx cx hvx hwx) | (with_reducible refine all_isRN ?_; intro Ax kx cx hvx) | (with_reducible refine all_isD ?_; intro sx Ax kx cx hvx hwx))
          refine ⟨by kernel_rfl, ?_⟩
          go_simp
          (with_reducible exact grow_of (rsame_d (RD.of (by assumption) (by assumption)) (RD.of (by assumption) (by assumption)) CR2 BR2 BNR (by omega) HE2.out))
        refine owes2_cons (fun wx hox => ?_) ?_
        · skip
          skip
          refine withs_plain rfl ?_
          simp only [withs, List.getElem?_cons_zero, List.getElem?_cons_succ, Option.bind, Option.getD]
          repeat (first | (with_reducible refine all_isV ?_) | (with_reducible refine all_isRD ?_; intro sx Ax kx cx hvx hwx) | (with_reducible refine all_isRN ?_; intro Ax kx cx hvx) | (with_reducible refine all_isD ?_; intro sx Ax kx cx hvx hwx))
          go_simp
          exact ⟨Only.refl _ _, isV.self _ _⟩
        refine owes2_cons (fun wx hox => ?_) ?_
        · skip
          skip
          refine withs_plain rfl ?_
          simp only [withs, List.getElem?_cons_zero, List.getElem?_cons_succ, Option.bind, Option.getD]
          repeat (first | (with_reducible refine all_isV ?_) | (with_reducible refine all_isRD ?_; intro sx Ax kx cx hvx hwx) | (with_reducible refine all_isRN ?_; intro Ax kx cx hvx) | (with_reducible refine all_isD ?_; intro sx Ax kx cx hvx hwx))
          go_simp
          exact ⟨Only.refl _ _, isV.self _ _⟩
        exact owes2_nil
      case he =>
        intro wx hox
        refine withs_of (by simp only [List.length, List.range, List.range.loop]; exact rfl) ?_
        simp only [withs, List.getElem?_cons_zero, List.getElem?_cons_succ, Option.bind, Option.getD]
        repeat (first | (with_reducible refine all_isV ?_) | (with_reducible refine all_isRD ?_; intro sx Ax kx cx hvx hwx) | (with_reducible refine all_isRN ?_; intro Ax kx cx hvx) | (with_reducible refine all_isD ?_; intro sx Ax kx cx hvx hwx))
        go_simp
        go_wp2_with fail
        go_ret
        exact ⟨rfl, HE.out.only.nil_trans hox⟩
      case hl =>
        repeat (refine List.forall_mem_cons.2 ⟨?_, ?_⟩; first | exact isV.lasts _ | exact isRD.lasts _ | exact isRN.lasts _ | exact isD.lasts _ | exact isNV.lasts _ | exact isDV.lasts _ | exact isWV.lasts _ | exact isWC.lasts _ | exact isNR.lasts _ _ | exact isWR.lasts _ _ | exact isRow.lasts _ _ _ | exact isPtr.lasts _ _ _ | exact isRow1.lasts _)
        exact fun _ h => (by cases h)
    · obtain ⟨t1, t2⟩ := hts.1 (by omega)
      have BM : Hid (Bnd (4 * N + 6002) x) := BX.out.mono (by omega)
      obtain ⟨ca, hca⟩ : ∃ k, cmpQ x.q up.q = k := ⟨_, rfl⟩
      obtain ⟨cb, hcb⟩ : ∃ k, cmpQ x.q hf.q = k := ⟨_, rfl⟩
      have hca1 : decide (ca < 0) = true := by rw [← hca, hqu, cmpQ_lt t2]; decide
      have hcb1 : decide (0 ≤ cb) = true := by rw [← hcb, hqh]; exact decide_eq_true (cmpQ_ge t1)
      have HCA := Lib.hid hca
      have HCB := Lib.hid hcb
      have HPX : Hid (x.z.sign = 1) := Int.sign_eq_one_of_pos (by omega)
      clear hup hhf hqu hqh hts hneg t1 t2 hca hcb hx0 hrx hK
      go_enter Tryd.func7, Tryd.ntmps7
      go_wp2_with fail
      (with_reducible refine HLV.out.mono ?_)
      rintro e w1 ⟨rfl, ho⟩
      replace HK := Lib.hid (HK.out.step ho)
      replace H1 := Lib.hid (H1.out.only ho)
      clear ho i0 i1 i2
      go_wp2_with fail
      (with_reducible refine (alive3_any _ (Lib.hid (htab.out.only HK.out.only)) (Lib.hid (hT.out.keep HK.out.only))).mono ?_)
      rintro e w2 ⟨rfl, ho⟩
      replace HK := Lib.hid (HK.out.step ho)
      replace H1 := Lib.hid (H1.out.only ho)
      clear ho
      obtain ⟨i0, i1, i2, -, -, -⟩ := HK.out.c3 0 rfl
      go_wp2_with fail
      (with_reducible refine (numOfV_any n1 A1 L1 c1 x _ HZ1.out H1 hl1).mono ?_)
      rintro e w3 ⟨s3, A3, k3, c3, rfl, hv, ho⟩
      have HE := Lib.hid (((DB.start w).step (HK.out.only.nil_trans ho)).new hv)
      clear hv ho i0 i1 i2 HK H1
      obtain ⟨i0, i1, i2, -, -, -⟩ := DB.cells HE 0 rfl
      go_wp2_with fail
      (with_reducible refine (rrefV_d r HRr.out (DB.dv HE 0 rfl) BX (by omega)).mono ?_)
      rintro e w5 ⟨s7, A7, k7, c7, rfl, hc, hv, ho⟩
      have HQ := Lib.hid (QB.new hv hc)
      have he := (HE.out.step ho).step ((Only.refl [] w5).alloc (.cells #[.bool s7, .slice A7 k7 c7, .int .i64 r.e] 53))
      replace HE := Lib.hid he
      clear hc hv ho he
      clear i0 i1 i2
      obtain ⟨i0, i1, i2, -, -, -⟩ := DB.cells HE 0 rfl
      go_wp2_with fail
      (with_reducible refine (topV_d t (DB.dv HE 0 rfl) BX (by omega) HTx.out).mono ?_)
      rintro e w5 ⟨rfl, ho⟩
      replace HE := Lib.hid (HE.out.step ho)
      replace HQ := Lib.hid (HQ.out.step ho)
      clear ho
      clear i0 i1 i2
      obtain ⟨q0, q1, q2⟩ := QB.cells HQ
      go_wp2_with fail
      (with_reducible refine (rsign_d rs (QB.rd HQ) HRs.out).mono ?_)
      rintro e w5 ⟨rfl, ho⟩
      replace HE := Lib.hid (HE.out.step ho)
      replace HQ := Lib.hid (HQ.out.step ho)
      clear ho
      skip
      clear q0 q1 q2
      go_wp2_with fail
      (with_reducible refine (ofV_d 1 ⟨1, 0⟩ _ nrm_one HI1 (Lib.hid (hT.out.keep HE.out.only))).mono ?_)
      rintro e w5 ⟨s6, A6, k6, c6, rfl, -, -, hv, ho⟩
      have HV6 : Hid (IV w5 (.agg #[.bool s6, .slice A6 k6 c6]) 1) := hv
      have hfl : (Instr.field 80 (.agg #[.bool s6, .slice A6 k6 c6, .int .i64 0]) 0).run Tryd.prog w5 = .ok (.agg #[.bool s6, .slice A6 k6 c6]) w5 := by kernel_rfl
      replace HE := Lib.hid (HE.out.step ho)
      replace HQ := Lib.hid (HQ.out.step ho)
      clear hv ho
      
      go_wp2_with fail
      (with_reducible refine (makeV_d up HUP.out HV6 HB1 (by omega) (by omega) (Lib.hid (hT.out.keep HE.out.only))).mono ?_)
      rintro e w5 ⟨s5, A5, k5, c5, rfl, -, -, hv, ho⟩
      replace HE := Lib.hid ((HE.out.step ho).new hv)
      replace HQ := Lib.hid ((HQ.out.step ho).step ((Only.refl [] w5).alloc (.cells #[.bool s5, .slice A5 k5 c5, .int .i64 up.e] 80)))
      clear hv ho
      skip
      go_upto_region 9 with fail
      generalize w5.heap.size = g6 at *
      generalize w5.alloc _ = w5 at *
      obtain ⟨i0, i1, i2, -, -, -⟩ := DB.cells HE 1 rfl
      have hcp := HE.out.new (DB.iv HE 1 rfl).out
      have hqp := HQ.out.step ((Only.refl [] w5).alloc (.cells #[.bool s3, .slice A3 k3 c3, .int .i64 x.e] 80))
      have HGne := Lib.hid (Nat.ne_of_lt HQ.out.blk.lt)
      replace HE := Lib.hid hcp
      replace HQ := Lib.hid hqp
      clear hcp hqp
      go_upto_region 10 with fail
      clear i0 i1 i2
      generalize w5.heap.size = g7 at *
      generalize w5.alloc _ = w6 at *
      obtain ⟨i0, i1, i2, -, -, -⟩ := DB.cells HE 2 rfl
      go_wp2_with fail
      (with_reducible refine (signV_d 1 (DB.dv HE 2 rfl) HPX.out).mono ?_)
      rintro e w5 ⟨rfl, ho⟩
      replace HE := Lib.hid (HE.out.step ho)
      replace HQ := Lib.hid (HQ.out.step ho)
      clear ho
      clear i0 i1 i2
      go_upto_region 12 with fail
      go_wp2_with fail
      (with_reducible refine (ofV_d 1 ⟨1, 0⟩ _ nrm_one HI1 (Lib.hid (hT.out.keep HE.out.only))).mono ?_)
      rintro e w5 ⟨s6, A6, k6, c6, rfl, -, -, hv, ho⟩
      have HV6 : Hid (IV w5 (.agg #[.bool s6, .slice A6 k6 c6]) 1) := hv
      have hfl : (Instr.field 80 (.agg #[.bool s6, .slice A6 k6 c6, .int .i64 0]) 0).run Tryd.prog w5 = .ok (.agg #[.bool s6, .slice A6 k6 c6]) w5 := by kernel_rfl
      replace HE := Lib.hid (HE.out.step ho)
      replace HQ := Lib.hid (HQ.out.step ho)
      clear hv ho
      
      go_wp2_with fail
      (with_reducible refine (makeV_d hf HHF.out HV6 HB1 (by omega) (by omega) (Lib.hid (hT.out.keep HE.out.only))).mono ?_)
      rintro e w5 ⟨s5, A5, k5, c5, rfl, -, -, hv, ho⟩
      replace HE := Lib.hid ((HE.out.step ho).new hv)
      replace HQ := Lib.hid ((HQ.out.step ho).step ((Only.refl [] w5).alloc (.cells #[.bool s5, .slice A5 k5 c5, .int .i64 hf.e] 80)))
      clear hv ho
      skip
      go_upto_region 13 with fail
      generalize w5.heap.size = g8 at *
      generalize w5.alloc _ = w5 at *
      apply wp_region_typed2 (by kernel_rfl) [isV _, isV _, isV _, isV _, isV _, isV _, isV _, isV _, isV _, isV _, isV _, isV _, isV _, isD (dNot x), isV _, isV _, isV _, isV _, isV _, isD (dNot x), isRD (dNot x), isV _, isRD (dNot r), isV _, isV _, isV _] [[], [], [0, 1], [2], [3], [4], [4], [4, 5, 6], [4, 7], [4, 8], [9], [10], [10], [10, 12], [10, 13], [10, 11, 14], [10, 15], [16], [17], [17, 18], [17, 19], [17], [17, 21], [17, 20, 22], [17, 23], [24]] (by kernel_rfl) (by kernel_rfl)
      case ho =>
        refine owes2_cons (fun wx hox => ?_) ?_
        · skip
          have he := Lib.hid (HE.out.step hox)
          have htx := Lib.hid (hT.out.keep he.out.only)
          obtain ⟨i0, i1, i2, -, -, -⟩ := DB.cells he 0 rfl
          have ivi := DB.iv he 0 rfl
          obtain ⟨j0, j1, j2, -, -, -⟩ := DB.cells he 1 rfl
          have ivj := DB.iv he 1 rfl
          obtain ⟨k0, k1, k2, -, -, -⟩ := DB.cells he 2 rfl
          have ivk := DB.iv he 2 rfl
          obtain ⟨l0, l1, l2, -, -, -⟩ := DB.cells he 3 rfl
          have ivl := DB.iv he 3 rfl
          obtain ⟨q0, q1, q2⟩ := QB.cells (Lib.hid (HQ.out.step hox))
          clear he
          refine withs_plain rfl ?_
          simp only [withs, List.getElem?_cons_zero, List.getElem?_cons_succ, Option.bind, Option.getD]
          repeat (first | (with_reducible refine all_isV ?_) | (with_reducible refine all_isRD ?_; intro sx Ax kx cx hvx hwx) | (with_reducible refine all_isRN ?_; intro Ax kx cx hvx) | (with_reducible refine all_isD ?_; intro sx Ax kx cx hvx hwx))
          go_simp
          exact ⟨Only.refl _ _, isV.self _ _⟩
        refine owes2_cons (fun wx hox => ?_) ?_
        · skip
          have he := Lib.hid (HE.out.step hox)
          have htx := Lib.hid (hT.out.keep he.out.only)
          obtain ⟨i0, i1, i2, -, -, -⟩ := DB.cells he 0 rfl
          have ivi := DB.iv he 0 rfl
          obtain ⟨j0, j1, j2, -, -, -⟩ := DB.cells he 1 rfl
          have ivj := DB.iv he 1 rfl
          obtain ⟨k0, k1, k2, -, -, -⟩ := DB.cells he 2 rfl
          have ivk := DB.iv he 2 rfl
          obtain ⟨l0, l1, l2, -, -, -⟩ := DB.cells he 3 rfl
          have ivl := DB.iv he 3 rfl
          obtain ⟨q0, q1, q2⟩ := QB.cells (Lib.hid (HQ.out.step hox))
          clear he
          refine withs_plain rfl ?_
          simp only [withs, List.getElem?_cons_zero, List.getElem?_cons_succ, Option.bind, Option.getD]
          repeat (first | (with_reducible refine all_isV ?_) | (with_reducible refine all_isRD ?_; intro sx Ax kx cx hvx hwx) | (with_reducible refine all_isRN ?_; intro Ax kx cx hvx) | (with_reducible refine all_isD ?_; intro sx Ax kx cx hvx hwx))
          go_simp
          exact ⟨Only.refl _ _, isV.self _ _⟩
        refine owes2_cons (fun wx hox => ?_) ?_
        · skip
          have he := Lib.hid (HE.out.step hox)
          have htx := Lib.hid (hT.out.keep he.out.only)
          obtain ⟨i0, i1, i2, -, -, -⟩ := DB.cells he 0 rfl
          have ivi := DB.iv he 0 rfl
          obtain ⟨j0, j1, j2, -, -, -⟩ := DB.cells he 1 rfl
          have ivj := DB.iv he 1 rfl
          obtain ⟨k0, k1, k2, -, -, -⟩ := DB.cells he 2 rfl
          have ivk := DB.iv he 2 rfl
          obtain ⟨l0, l1, l2, -, -, -⟩ := DB.cells he 3 rfl
          have ivl := DB.iv he 3 rfl
          obtain ⟨q0, q1, q2⟩ := QB.cells (Lib.hid (HQ.out.step hox))
          clear he
          refine withs_plain rfl ?_
          simp only [withs, List.getElem?_cons_zero, List.getElem?_cons_succ, Option.bind, Option.getD]
          repeat (first | (with_reducible refine all_isV ?_) | (with_reducible refine all_isRD ?_; intro sx Ax kx cx hvx hwx) | (with_reducible refine all_isRN ?_; intro Ax kx cx hvx) | (with_reducible refine all_isD ?_; intro sx Ax kx cx hvx hwx))
          go_simp
          (with_reducible exact grow_of (cmpV_d (x := x) (y := up) ca (DV.of (by assumption)) (DV.of (by assumption)) BM BU (by omega) HCA.out))
        refine owes2_cons (fun wx hox => ?_) ?_
        · skip
          skip
          refine withs_plain rfl ?_
          simp only [withs, List.getElem?_cons_zero, List.getElem?_cons_succ, Option.bind, Option.getD]
          repeat (first | (with_reducible refine all_isV ?_) | (with_reducible refine all_isRD ?_; intro sx Ax kx cx hvx hwx) | (with_reducible refine all_isRN ?_; intro Ax kx cx hvx) | (with_reducible refine all_isD ?_; intro sx Ax kx cx hvx hwx))
          go_simp
          exact ⟨Only.refl _ _, isV.self _ _⟩
        refine owes2_cons (fun wx hox => ?_) ?_
        · skip
          skip
          refine withs_plain rfl ?_
          simp only [withs, List.getElem?_cons_zero, List.getElem?_cons_succ, Option.bind, Option.getD]
          repeat (first | (with_reducible refine all_isV ?_) | (with_reducible refine all_isRD ?_; intro sx Ax kx cx hvx hwx) | (with_reducible refine all_isRN ?_; intro Ax kx cx hvx) | (with_reducible refine all_isD ?_; intro sx Ax kx cx hvx hwx))
          go_simp
          exact ⟨Only.refl _ _, isV.self _ _⟩
        refine owes2_cons (fun wx hox => ?_) ?_
        · skip
          have he := Lib.hid (HE.out.step hox)
          have htx := Lib.hid (hT.out.keep he.out.only)
          obtain ⟨i0, i1, i2, -, -, -⟩ := DB.cells he 0 rfl
          have ivi := DB.iv he 0 rfl
          obtain ⟨j0, j1, j2, -, -, -⟩ := DB.cells he 1 rfl
          have ivj := DB.iv he 1 rfl
          obtain ⟨k0, k1, k2, -, -, -⟩ := DB.cells he 2 rfl
          have ivk := DB.iv he 2 rfl
          obtain ⟨l0, l1, l2, -, -, -⟩ := DB.cells he 3 rfl
          have ivl := DB.iv he 3 rfl
          obtain ⟨q0, q1, q2⟩ := QB.cells (Lib.hid (HQ.out.step hox))
          clear he
          refine withs_guard rfl rfl ?_
          simp only [withs, List.getElem?_cons_zero, List.getElem?_cons_succ, Option.bind, Option.getD]
          repeat (first | (with_reducible refine all_isV ?_) | (with_reducible refine all_isRD ?_; intro sx Ax kx cx hvx hwx) | (with_reducible refine all_isRN ?_; intro Ax kx cx hvx) | (with_reducible refine all_isD ?_; intro sx Ax kx cx hvx hwx))
          refine ⟨by kernel_rfl, ?_⟩
          go_simp
          exact ⟨Only.refl _ _, isV.self _ _⟩
        refine owes2_cons (fun wx hox => ?_) ?_
        · skip
          have he := Lib.hid (HE.out.step hox)
          have htx := Lib.hid (hT.out.keep he.out.only)
          obtain ⟨i0, i1, i2, -, -, -⟩ := DB.cells he 0 rfl
          have ivi := DB.iv he 0 rfl
          obtain ⟨j0, j1, j2, -, -, -⟩ := DB.cells he 1 rfl
          have ivj := DB.iv he 1 rfl
          obtain ⟨k0, k1, k2, -, -, -⟩ := DB.cells he 2 rfl
          have ivk := DB.iv he 2 rfl
          obtain ⟨l0, l1, l2, -, -, -⟩ := DB.cells he 3 rfl
          have ivl := DB.iv he 3 rfl
          obtain ⟨q0, q1, q2⟩ := QB.cells (Lib.hid (HQ.out.step hox))
          clear he
          refine withs_guard rfl rfl ?_
          simp only [withs, List.getElem?_cons_zero, List.getElem?_cons_succ, Option.bind, Option.getD]
          repeat (first | (with_reducible refine all_isV ?_) | (with_reducible refine all_isRD ?_; intro sx Ax kx cx hvx hwx) | (with_reducible refine all_isRN ?_; intro Ax kx cx hvx) | (with_reducible refine all_isD ?_; intro sx Ax kx cx hvx hwx))
          refine ⟨by kernel_rfl, ?_⟩
          go_simp
          exact ⟨Only.refl _ _, isV.self _ _⟩
        refine owes2_cons (fun wx hox => ?_) ?_
        · skip
          have he := Lib.hid (HE.out.step hox)
          have htx := Lib.hid (hT.out.keep he.out.only)
          obtain ⟨i0, i1, i2, -, -, -⟩ := DB.cells he 0 rfl
          have ivi := DB.iv he 0 rfl
          obtain ⟨j0, j1, j2, -, -, -⟩ := DB.cells he 1 rfl
          have ivj := DB.iv he 1 rfl
          obtain ⟨k0, k1, k2, -, -, -⟩ := DB.cells he 2 rfl
          have ivk := DB.iv he 2 rfl
          obtain ⟨l0, l1, l2, -, -, -⟩ := DB.cells he 3 rfl
          have ivl := DB.iv he 3 rfl
          obtain ⟨q0, q1, q2⟩ := QB.cells (Lib.hid (HQ.out.step hox))
          clear he
          refine withs_guard rfl rfl ?_
          simp only [withs, List.getElem?_cons_zero, List.getElem?_cons_succ, Option.bind, Option.getD]
          repeat (first | (with_reducible refine all_isV ?_) | (with_reducible refine all_isRD ?_; intro sx Ax kx cx hvx hwx) | (with_reducible refine all_isRN ?_; intro Ax kx cx hvx) | (with_reducible refine all_isD ?_; intro sx Ax kx cx hvx hwx))
          refine ⟨by kernel_rfl, ?_⟩
          go_simp
          (with_reducible exact grow_of (cmpV_d (x := x) (y := hf) cb (DV.of (by assumption)) (DV.of (by assumption)) BM BH (by omega) HCB.out))
        refine owes2_cons (fun wx hox => ?_) ?_
        · skip
          skip
          refine withs_guard rfl rfl ?_
          simp only [withs, List.getElem?_cons_zero, List.getElem?_cons_succ, Option.bind, Option.getD]
          repeat (first | (with_reducible refine all_isV ?_) | (with_reducible refine all_isRD ?_; intro sx Ax kx cx hvx hwx) | (with_reducible refine all_isRN ?_; intro Ax kx cx hvx) | (with_reducible refine all_isD ?_; intro sx Ax kx cx hvx hwx))
          refine ⟨by kernel_rfl, ?_⟩
          go_simp
          exact ⟨Only.refl _ _, isV.self _ _⟩
        refine owes2_cons (fun wx hox => ?_) ?_
        · skip
          skip
          refine withs_plain rfl ?_
          simp only [withs, List.getElem?_cons_zero, List.getElem?_cons_succ, Option.bind, Option.getD]
          repeat (first | (with_reducible refine all_isV ?_) | (with_reducible refine all_isRD ?_; intro sx Ax kx cx hvx hwx) | (with_reducible refine all_isRN ?_; intro Ax kx cx hvx) | (with_reducible refine all_isD ?_; intro sx Ax kx cx hvx hwx))
          go_simp
          exact ⟨Only.refl _ _, isV.self _ _⟩
        refine owes2_cons (fun wx hox => ?_) ?_
        · skip
          skip
          refine withs_plain rfl ?_
          simp only [withs, List.getElem?_cons_zero, List.getElem?_cons_succ, Option.bind, Option.getD]
          repeat (first | (with_reducible refine all_isV ?_) | (with_reducible refine all_isRD ?_; intro sx Ax kx cx hvx hwx) | (with_reducible refine all_isRN ?_; intro Ax kx cx hvx) | (with_reducible refine all_isD ?_; intro sx Ax kx cx hvx hwx))
          go_simp
          exact ⟨Only.refl _ _, isV.self _ _⟩
        refine owes2_cons (fun wx hox => ?_) ?_
        · skip
          skip
          refine withs_guard rfl rfl ?_
          simp only [withs, List.getElem?_cons_zero, List.getElem?_cons_succ, Option.bind, Option.getD]
          repeat (first | (with_reducible refine all_isV ?_) | (with_reducible refine all_isRD ?_; intro sx Ax kx cx hvx hwx) | (with_reducible refine all_isRN ?_; intro Ax kx cx hvx) | (with_reducible refine all_isD ?_; intro sx Ax kx cx hvx hwx))
          refine ⟨by kernel_rfl, ?_⟩
          go_simp
          exact ⟨Only.refl _ _, isV.self _ _⟩
        refine owes2_cons (fun wx hox => ?_) ?_
        · skip
          have he := Lib.hid (HE.out.step hox)
          have htx := Lib.hid (hT.out.keep he.out.only)
          obtain ⟨i0, i1, i2, -, -, -⟩ := DB.cells he 0 rfl
          have ivi := DB.iv he 0 rfl
          obtain ⟨j0, j1, j2, -, -, -⟩ := DB.cells he 1 rfl
          have ivj := DB.iv he 1 rfl
          obtain ⟨k0, k1, k2, -, -, -⟩ := DB.cells he 2 rfl
          have ivk := DB.iv he 2 rfl
          obtain ⟨l0, l1, l2, -, -, -⟩ := DB.cells he 3 rfl
          have ivl := DB.iv he 3 rfl
          obtain ⟨q0, q1, q2⟩ := QB.cells (Lib.hid (HQ.out.step hox))
          clear he
          refine withs_guard rfl rfl ?_
          simp only [withs, List.getElem?_cons_zero, List.getElem?_cons_succ, Option.bind, Option.getD]
          repeat (first | (with_reducible refine all_isV ?_) | (with_reducible refine all_isRD ?_; intro sx Ax kx cx hvx hwx) | (with_reducible refine all_isRN ?_; intro Ax kx cx hvx) | (with_reducible refine all_isD ?_; intro sx Ax kx cx hvx hwx))
          refine ⟨by kernel_rfl, ?_⟩
          go_simp
          exact ⟨Only.refl _ _, isV.self _ _⟩
        refine owes2_cons (fun wx hox => ?_) ?_
        · skip
          have he := Lib.hid (HE.out.step hox)
          have htx := Lib.hid (hT.out.keep he.out.only)
          obtain ⟨i0, i1, i2, -, -, -⟩ := DB.cells he 0 rfl
          have ivi := DB.iv he 0 rfl
          obtain ⟨j0, j1, j2, -, -, -⟩ := DB.cells he 1 rfl
          have ivj := DB.iv he 1 rfl
          obtain ⟨k0, k1, k2, -, -, -⟩ := DB.cells he 2 rfl
          have ivk := DB.iv he 2 rfl
          obtain ⟨l0, l1, l2, -, -, -⟩ := DB.cells he 3 rfl
          have ivl := DB.iv he 3 rfl
          obtain ⟨q0, q1, q2⟩ := QB.cells (Lib.hid (HQ.out.step hox))
          clear he
          refine withs_guard rfl rfl ?_
          simp only [withs, List.getElem?_cons_zero, List.getElem?_cons_succ, Option.bind, Option.getD]
          repeat (first | (with_reducible refine all_isV ?_) | (with_reducible refine all_isRD ?_; intro sx Ax kx cx hvx hwx) | (with_reducible refine all_isRN ?_; intro Ax kx cx hvx) | (with_reducible refine all_isD ?_; intro sx Ax kx cx hvx hwx))
          refine ⟨by kernel_rfl, ?_⟩
          go_simp
          (with_reducible exact grow_d (not_d (DV.of (by assumption)) BX (by omega) htx))
        refine owes2_cons (fun wx hox => ?_) ?_
        · skip
          have he := Lib.hid (HE.out.step hox)
          have htx := Lib.hid (hT.out.keep he.out.only)
          obtain ⟨i0, i1, i2, -, -, -⟩ := DB.cells he 0 rfl
          have ivi := DB.iv he 0 rfl
          obtain ⟨j0, j1, j2, -, -, -⟩ := DB.cells he 1 rfl
          have ivj := DB.iv he 1 rfl
          obtain ⟨k0, k1, k2, -, -, -⟩ := DB.cells he 2 rfl
          have ivk := DB.iv he 2 rfl
          obtain ⟨l0, l1, l2, -, -, -⟩ := DB.cells he 3 rfl
          have ivl := DB.iv he 3 rfl
          obtain ⟨q0, q1, q2⟩ := QB.cells (Lib.hid (HQ.out.step hox))
          clear he
          refine withs_guard rfl rfl ?_
          simp only [withs, List.getElem?_cons_zero, List.getElem?_cons_succ, Option.bind, Option.getD]
          repeat (first | (with_reducible refine all_isV ?_) | (with_reducible refine all_isRD ?_; intro sx Ax kx cx hvx hwx) | (with_reducible refine all_isRN ?_; intro Ax kx cx hvx) | (with_reducible refine all_isD ?_; intro sx Ax kx cx hvx hwx))
          refine ⟨by kernel_rfl, ?_⟩
          go_simp
          (with_reducible exact grow_of (topV_d (x := dNot x) t (DV.of (by assumption)) BNX (by omega) HTN.out))
        refine owes2_cons (fun wx hox => ?_) ?_
        · skip
          skip
          refine withs_guard rfl rfl ?_
          simp only [withs, List.getElem?_cons_zero, List.getElem?_cons_succ, Option.bind, Option.getD]
          repeat (first | (with_reducible refine all_isV ?_) | (with_reducible refine all_isRD ?_; intro sx Ax kx cx hvx hwx) | (with_reducible refine all_isRN ?_; intro Ax kx cx hvx) | (with_reducible refine all_isD ?_; intro sx Ax kx cx hvx hwx))
          refine ⟨by kernel_rfl, ?_⟩
          go_simp
          exact ⟨Only.refl _ _, isV.self _ _⟩
        refine owes2_cons (fun wx hox => ?_) ?_
        · skip
          skip
          refine withs_plain rfl ?_
          simp only [withs, List.getElem?_cons_zero, List.getElem?_cons_succ, Option.bind, Option.getD]
          repeat (first | (with_reducible refine all_isV ?_) | (with_reducible refine all_isRD ?_; intro sx Ax kx cx hvx hwx) | (with_reducible refine all_isRN ?_; intro Ax kx cx hvx) | (with_reducible refine all_isD ?_; intro sx Ax kx cx hvx hwx))
          go_simp
          exact ⟨Only.refl _ _, isV.self _ _⟩
        refine owes2_cons (fun wx hox => ?_) ?_
        · skip
          skip
          refine withs_plain rfl ?_
          simp only [withs, List.getElem?_cons_zero, List.getElem?_cons_succ, Option.bind, Option.getD]
          repeat (first | (with_reducible refine all_isV ?_) | (with_reducible refine all_isRD ?_; intro sx Ax kx cx hvx hwx) | (with_reducible refine all_isRN ?_; intro Ax kx cx hvx) | (with_reducible refine all_isD ?_; intro sx Ax kx cx hvx hwx))
          go_simp
          exact ⟨Only.refl _ _, isV.self _ _⟩
        refine owes2_cons (fun wx hox => ?_) ?_
        · skip
          have he := Lib.hid (HE.out.step hox)
          have htx := Lib.hid (hT.out.keep he.out.only)
          obtain ⟨i0, i1, i2, -, -, -⟩ := DB.cells he 0 rfl
          have ivi := DB.iv he 0 rfl
          obtain ⟨j0, j1, j2, -, -, -⟩ := DB.cells he 1 rfl
          have ivj := DB.iv he 1 rfl
          obtain ⟨k0, k1, k2, -, -, -⟩ := DB.cells he 2 rfl
          have ivk := DB.iv he 2 rfl
          obtain ⟨l0, l1, l2, -, -, -⟩ := DB.cells he 3 rfl
          have ivl := DB.iv he 3 rfl
          obtain ⟨q0, q1, q2⟩ := QB.cells (Lib.hid (HQ.out.step hox))
          clear he
          refine withs_guard rfl rfl ?_
          simp only [withs, List.getElem?_cons_zero, List.getElem?_cons_succ, Option.bind, Option.getD]
          repeat (first | (with_reducible refine all_isV ?_) | (with_reducible refine all_isRD ?_; intro sx Ax kx cx hvx hwx) | (with_reducible refine all_isRN ?_; intro Ax kx cx hvx) | (with_reducible refine all_isD ?_; intro sx Ax kx cx hvx hwx))
          refine ⟨by kernel_rfl, ?_⟩
          go_simp
          exact ⟨Only.refl _ _, isV.self _ _⟩
        refine owes2_cons (fun wx hox => ?_) ?_
        · skip
          have he := Lib.hid (HE.out.step hox)
          have htx := Lib.hid (hT.out.keep he.out.only)
          obtain ⟨i0, i1, i2, -, -, -⟩ := DB.cells he 0 rfl
          have ivi := DB.iv he 0 rfl
          obtain ⟨j0, j1, j2, -, -, -⟩ := DB.cells he 1 rfl
          have ivj := DB.iv he 1 rfl
          obtain ⟨k0, k1, k2, -, -, -⟩ := DB.cells he 2 rfl
          have ivk := DB.iv he 2 rfl
          obtain ⟨l0, l1, l2, -, -, -⟩ := DB.cells he 3 rfl
          have ivl := DB.iv he 3 rfl
          obtain ⟨q0, q1, q2⟩ := QB.cells (Lib.hid (HQ.out.step hox))
          clear he
          refine withs_guard rfl rfl ?_
          simp only [withs, List.getElem?_cons_zero, List.getElem?_cons_succ, Option.bind, Option.getD]
          repeat (first | (with_reducible refine all_isV ?_) | (with_reducible refine all_isRD ?_; intro sx Ax kx cx hvx hwx) | (with_reducible refine all_isRN ?_; intro Ax kx cx hvx) | (with_reducible refine all_isD ?_; intro sx Ax kx cx hvx hwx))
          refine ⟨by kernel_rfl, ?_⟩
          go_simp
          (with_reducible exact grow_d (not_d (DV.of (by assumption)) BX (by omega) htx))
        refine owes2_cons (fun wx hox => ?_) ?_
        · skip
          have he := Lib.hid (HE.out.step hox)
          have htx := Lib.hid (hT.out.keep he.out.only)
          obtain ⟨i0, i1, i2, -, -, -⟩ := DB.cells he 0 rfl
          have ivi := DB.iv he 0 rfl
          obtain ⟨j0, j1, j2, -, -, -⟩ := DB.cells he 1 rfl
          have ivj := DB.iv he 1 rfl
          obtain ⟨k0, k1, k2, -, -, -⟩ := DB.cells he 2 rfl
          have ivk := DB.iv he 2 rfl
          obtain ⟨l0, l1, l2, -, -, -⟩ := DB.cells he 3 rfl
          have ivl := DB.iv he 3 rfl
          obtain ⟨q0, q1, q2⟩ := QB.cells (Lib.hid (HQ.out.step hox))
          clear he
          refine withs_guard rfl rfl ?_
          simp only [withs, List.getElem?_cons_zero, List.getElem?_cons_succ, Option.bind, Option.getD]
          repeat (first | (with_reducible refine all_isV ?_) | (with_reducible refine all_isRD ?_; intro sx Ax kx cx hvx hwx) | (with_reducible refine all_isRN ?_; intro Ax kx cx hvx) | (with_reducible refine all_isD ?_; intro sx Ax kx cx hvx hwx))
          refine ⟨by kernel_rfl, ?_⟩
          go_simp
          (with_reducible exact grow_rd (rrefV_d (dNot x) HR2.out (DV.of (by assumption)) BNX (by omega)))
        refine owes2_cons (fun wx hox => ?_) ?_
        · skip
          have he := Lib.hid (HE.out.step hox)
          have htx := Lib.hid (hT.out.keep he.out.only)
          obtain ⟨i0, i1, i2, -, -, -⟩ := DB.cells he 0 rfl
          have ivi := DB.iv he 0 rfl
          obtain ⟨j0, j1, j2, -, -, -⟩ := DB.cells he 1 rfl
          have ivj := DB.iv he 1 rfl
          obtain ⟨k0, k1, k2, -, -, -⟩ := DB.cells he 2 rfl
          have ivk := DB.iv he 2 rfl
          obtain ⟨l0, l1, l2, -, -, -⟩ := DB.cells he 3 rfl
          have ivl := DB.iv he 3 rfl
          obtain ⟨q0, q1, q2⟩ := QB.cells (Lib.hid (HQ.out.step hox))
          clear he
          refine withs_guard rfl rfl ?_
          simp only [withs, List.getElem?_cons_zero, List.getElem?_cons_succ, Option.bind, Option.getD]
          repeat (first | (with_reducible refine all_isV ?_) | (with_reducible refine all_isRD ?_; intro sx Ax kx cx hvx hwx) | (with_reducible refine all_isRN ?_; intro Ax kx cx hvx) | (with_reducible refine all_isD ?_; intro sx Ax kx cx hvx hwx))
          refine ⟨by kernel_rfl, ?_⟩
          go_simp
          exact ⟨Only.refl _ _, isV.self _ _⟩
        refine owes2_cons (fun wx hox => ?_) ?_
        · skip
          have he := Lib.hid (HE.out.step hox)
          have htx := Lib.hid (hT.out.keep he.out.only)
          obtain ⟨i0, i1, i2, -, -, -⟩ := DB.cells he 0 rfl
          have ivi := DB.iv he 0 rfl
          obtain ⟨j0, j1, j2, -, -, -⟩ := DB.cells he 1 rfl
          have ivj := DB.iv he 1 rfl
          obtain ⟨k0, k1, k2, -, -, -⟩ := DB.cells he 2 rfl
          have ivk := DB.iv he 2 rfl
          obtain ⟨l0, l1, l2, -, -, -⟩ := DB.cells he 3 rfl
          have ivl := DB.iv he 3 rfl
          obtain ⟨q0, q1, q2⟩ := QB.cells (Lib.hid (HQ.out.step hox))
          clear he
          refine withs_guard rfl rfl ?_
          simp only [withs, List.getElem?_cons_zero, List.getElem?_cons_succ, Option.bind, Option.getD]
          repeat (first | (with_reducible refine all_isV ?_) | (with_reducible refine all_isRD ?_; intro sx Ax kx cx hvx hwx) | (with_reducible refine all_isRN ?_; intro Ax kx cx hvx) | (with_reducible refine all_isD ?_; intro sx Ax kx cx hvx hwx))
          refine ⟨by kernel_rfl, ?_⟩
          go_simp
          (with_reducible exact grow_rd (rnot_d (QB.rd (Lib.hid (HQ.out.step hox))) BR (by omega)))
        refine owes2_cons (fun wx hox => ?_) ?_
        · skip
          have he := Lib.hid (HE.out.step hox)
          have htx := Lib.hid (hT.out.keep he.out.only)
          obtain ⟨i0, i1, i2, -, -, -⟩ := DB.cells he 0 rfl
          have ivi := DB.iv he 0 rfl
          obtain ⟨j0, j1, j2, -, -, -⟩ := DB.cells he 1 rfl
          have ivj := DB.iv he 1 rfl
          obtain ⟨k0, k1, k2, -, -, -⟩ := DB.cells he 2 rfl
          have ivk := DB.iv he 2 rfl
          obtain ⟨l0, l1, l2, -, -, -⟩ := DB.cells he 3 rfl
          have ivl := DB.iv he 3 rfl
          obtain ⟨q0, q1, q2⟩ := QB.cells (Lib.hid (HQ.out.step hox))
          clear he
          refine withs_guard rfl rfl ?_
          simp only [withs, List.getElem?_cons_zero, List.getElem?_cons_succ, Option.bind, Option.getD]
          repeat (first | (with_reducible refine all_isV ?_) | (with_reducible refine all_isRD ?_; intro sx Ax kx cx hvx hwx) | (with_reducible refine all_isRN ?_; intro Ax kx cx hvx) | (with_reducible refine all_isD ?_; intro sx Ax kx cx hvx hwx))
          refine ⟨by kernel_rfl, ?_⟩
          go_simp
          (with_reducible exact grow_of (rsame_d (RD.of (by assumption) (by assumption)) (RD.of (by assumption) (by assumption)) CR2 BR2 BNR (by omega) HE2.out))
        refine owes2_cons (fun wx hox => ?_) ?_
        · skip
          skip
          refine withs_plain rfl ?_
          simp only [withs, List.getElem?_cons_zero, List.getElem?_cons_succ, Option.bind, Option.getD]
          repeat (first | (with_reducible refine all_isV ?_) | (with_reducible refine all_isRD ?_; intro sx Ax kx cx hvx hwx) | (with_reducible refine all_isRN ?_; intro Ax kx cx hvx) | (with_reducible refine all_isD ?_; intro sx Ax kx cx hvx hwx))
          go_simp
          exact ⟨Only.refl _ _, isV.self _ _⟩
        refine owes2_cons (fun wx hox => ?_) ?_
        · skip
          skip
          refine withs_plain rfl ?_
          simp only [withs, List.getElem?_cons_zero, List.getElem?_cons_succ, Option.bind, Option.getD]
          repeat (first | (with_reducible refine all_isV ?_) | (with_reducible refine all_isRD ?_; intro sx Ax kx cx hvx hwx) | (with_reducible refine all_isRN ?_; intro Ax kx cx hvx) | (with_reducible refine all_isD ?_; intro sx Ax kx cx hvx hwx))
          go_simp
          exact ⟨Only.refl _ _, isV.self _ _⟩
        exact owes2_nil
      case he =>
        intro wx hox
        refine withs_of (by simp only [List.length, List.range, List.range.loop]; exact rfl) ?_
        simp only [withs, List.getElem?_cons_zero, List.getElem?_cons_succ, Option.bind, Option.getD]
        repeat (first | (with_reducible refine all_isV ?_) | (with_reducible refine all_isRD ?_; intro sx Ax kx cx hvx hwx) | (with_reducible refine all_isRN ?_; intro Ax kx cx hvx) | (with_reducible refine all_isD ?_; intro sx Ax kx cx hvx hwx))
        go_simp
        go_wp2_with fail
        go_ret
        exact ⟨rfl, HE.out.only.nil_trans hox⟩
      case hl =>
        repeat (refine List.forall_mem_cons.2 ⟨?_, ?_⟩; first | exact isV.lasts _ | exact isRD.lasts _ | exact isRN.lasts _ | exact isD.lasts _ | exact isNV.lasts _ | exact isDV.lasts _ | exact isWV.lasts _ | exact isWC.lasts _ | exact isNR.lasts _ _ | exact isWR.lasts _ _ | exact isRow.lasts _ _ _ | exact isPtr.lasts _ _ _ | exact isRow1.lasts _)
        exact fun _ h => (by cases h)

end Go.Proofs.YtcknigodcjjahaaDoor
