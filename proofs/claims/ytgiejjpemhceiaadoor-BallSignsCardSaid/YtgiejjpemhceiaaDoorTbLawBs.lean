/-
  BallSigns: the walk.
-/
import Derived.Test.YtgiejjpemhceiaaDoorTbBlR
import Derived.Test.YtgiejjpemhceiaaDoorTbBlE
namespace Go.Proofs.YtgiejjpemhceiaaDoor
set_option linter.unusedSimpArgs false
open Go.RowKit

theorem cr_zero : Cr false 0 0 := ⟨by decide, by show 0 = (R.limbsOf 0).length; rw [R.limbsOf_zero]; rfl⟩
theorem rd_zero (w : World) : RD w (.agg #[.bool false, .slice none 0 0, .int .i64 0]) ⟨0, 0⟩ := ⟨false, none, 0, 0, rfl, cr_zero, RV.nil _⟩
theorem nrm_sgn (z e : Int) : (nrm z e).z.sign = z.sign := by
  have h := q_sign (nrm z e)
  rw [nrm_q] at h
  have h2 := q_sign ⟨z, e⟩
  unfold Dy.q at h2
  simp only at h2
  rw [← h, h2]
set_option maxHeartbeats 8000000 in
set_option maxRecDepth 100000 in
theorem bsigns_out (n1 n2 : Bool) (A1 A2 : Option Addr) (L1 L2 : List Nat) (c1 c2 : Nat) (e1 e2 : Int) (w : World) (hT : Hid (Tab6 w)) (hl : lightN [⟨n1, A1, L1.length, c1, e1⟩, ⟨n2, A2, L2.length, c2, e2⟩] = false) :
    Calls Tryd.prog 4 #[.agg #[.bool n1, .slice A1 L1.length c1, .int .i64 e1], .agg #[.bool n2, .slice A2 L2.length c2, .int .i64 e2]] w fun e w' => e = .returned (.bool true) ∧ Only [] w w' := by
  have HL := Lib.hid hl
  clear hl
  have hlv := light3_v (w := (w.alloc (.cells #[.bool n1, .slice A1 L1.length c1, .int .i64 e1] 48)).alloc (.cells #[.bool n2, .slice A2 L2.length c2, .int .i64 e2] 48)) [⟨n1, A1, L1.length, c1, e1⟩, ⟨n2, A2, L2.length, c2, e2⟩] 2 (Lib.hid rfl) (by omega)
  rw [HL.out] at hlv
  simp only [flatN, List.flatMap_cons, List.flatMap_nil, List.cons_append, List.nil_append, World.size_alloc] at hlv
  have hk := ((KB.start w).new 48 [.bool n1, .slice A1 L1.length c1, .int .i64 e1]).new 48 [.bool n2, .slice A2 L2.length c2, .int .i64 e2]
  simp only [World.size_alloc] at hk
  have HK := Lib.hid hk
  have HLV := Lib.hid hlv
  clear hlv hk HL
  obtain ⟨i0, i1, i2, -, -, -⟩ := HK.out.c3 1 rfl
  obtain ⟨j0, j1, j2, -, -, -⟩ := HK.out.c3 0 rfl
  go_enter Tryd.func4, Tryd.ntmps4
  go_wp2_with fail
  (with_reducible refine HLV.out.mono ?_)
  rintro e w1 ⟨rfl, ho⟩
  replace HK := Lib.hid (HK.out.step ho)
  clear ho i0 i1 i2 j0 j1 j2
  go_wp2_with fail
  (with_reducible refine (alive5_any _ (Lib.hid (hT.out.keep HK.out.only))).mono ?_)
  rintro e w2 ⟨rfl, ho⟩
  replace HK := Lib.hid (HK.out.step ho)
  clear ho
  go_wp2_with fail
  go_ret
  exact ⟨rfl, HK.out.only⟩
set_option maxHeartbeats 8000000 in
set_option maxRecDepth 100000 in
theorem bsigns_in (n1 n2 : Bool) (A1 A2 : Option Addr) (L1 L2 : List Nat) (c1 c2 : Nat) (x y lo hi rl rh : Dy) (w : World) (N : Nat) (HZ1 : Hid (sg n1 (val L1) = x.z)) (HZ2 : Hid (sg n2 (val L2) = y.z)) (H1 : Hid (LimbsIn w A1 L1)) (H2 : Hid (LimbsIn w A2 L2))
    (hT : Hid (Tab6 w)) (hl1 : (L1.length : Int) ≤ 40) (hl2 : (L2.length : Int) ≤ 40) (he1 : -3000 ≤ x.e ∧ x.e ≤ 3000) (he2 : -3000 ≤ y.e ∧ y.e ≤ 3000) (BX : Hid (Bnd N x)) (BY : Hid (Bnd N y)) (BLO : Hid (Bnd N lo)) (BHI : Hid (Bnd N hi)) (hN : N ≤ 4000) (cm : Int) (HCM : Hid (cmpQ x.q y.q = cm)) (HLH : Hid ((0 < cm → y = lo ∧ x = hi) ∧ (¬ 0 < cm → x = lo ∧ y = hi)))
    (sl sh p : Int) (ok r : Bool) (HP : Hid ((if lo.z.sign = hi.z.sign then lo.z.sign else 0) = p)) (HOK : Hid (decide (lo.z.sign = hi.z.sign) = ok)) (HNP : Hid ((if (dNot hi).z.sign = (dNot lo).z.sign then (dNot hi).z.sign else 0) = -p)) (HNOK : Hid (decide ((dNot hi).z.sign = (dNot lo).z.sign) = ok)) (HRL : Hid (nrm lo.z lo.e = rl)) (HRH : Hid (nrm hi.z hi.e = rh)) (HSL : Hid (rl.z.sign = sl)) (HSH : Hid (rh.z.sign = sh)) (HR : Hid ((decide (lo.q ≤ Dy.q ⟨0, 0⟩) && decide (Dy.q ⟨0, 0⟩ ≤ hi.q)) = r))
    (hcase : (sl = -1 ∧ sh = -1 ∧ p = -1 ∧ ok = true ∧ r = false) ∨ (sl = -1 ∧ sh = 0 ∧ p = 0 ∧ ok = false ∧ r = true) ∨ (sl = -1 ∧ sh = 1 ∧ p = 0 ∧ ok = false ∧ r = true) ∨ (sl = 0 ∧ sh = 0 ∧ p = 0 ∧ ok = true ∧ r = true) ∨ (sl = 0 ∧ sh = 1 ∧ p = 0 ∧ ok = false ∧ r = true) ∨ (sl = 1 ∧ sh = 1 ∧ p = 1 ∧ ok = true ∧ r = false)) :
    Calls Tryd.prog 4 #[.agg #[.bool n1, .slice A1 L1.length c1, .int .i64 x.e], .agg #[.bool n2, .slice A2 L2.length c2, .int .i64 y.e]] w fun e w' => e = .returned (.bool true) ∧ Only [] w w' := by
  have HL : Hid (lightN [⟨n1, A1, L1.length, c1, x.e⟩, ⟨n2, A2, L2.length, c2, y.e⟩] = true) := by
    show _ = _
    simp only [lightN, List.all_cons, List.all_nil, NR.ok, Bool.and_true, Bool.and_eq_true, decide_eq_true_eq]
    omega
  have hlv := light3_v (w := (w.alloc (.cells #[.bool n1, .slice A1 L1.length c1, .int .i64 x.e] 48)).alloc (.cells #[.bool n2, .slice A2 L2.length c2, .int .i64 y.e] 48)) [⟨n1, A1, L1.length, c1, x.e⟩, ⟨n2, A2, L2.length, c2, y.e⟩] 2 (Lib.hid rfl) (by omega)
  rw [HL.out] at hlv
  simp only [flatN, List.flatMap_cons, List.flatMap_nil, List.cons_append, List.nil_append, World.size_alloc] at hlv
  have hk := ((KB.start w).new 48 [.bool n1, .slice A1 L1.length c1, .int .i64 x.e]).new 48 [.bool n2, .slice A2 L2.length c2, .int .i64 y.e]
  simp only [World.size_alloc] at hk
  have HK := Lib.hid hk
  have HLV := Lib.hid hlv
  replace H1 := Lib.hid (H1.out.only hk.only)
  replace H2 := Lib.hid (H2.out.only hk.only)
  clear hlv hk HL he1 he2
  obtain ⟨i0, i1, i2, -, -, -⟩ := HK.out.c3 1 rfl
  obtain ⟨j0, j1, j2, -, -, -⟩ := HK.out.c3 0 rfl
  go_enter Tryd.func4, Tryd.ntmps4
  go_wp2_with fail
  (with_reducible refine HLV.out.mono ?_)
  rintro e w1 ⟨rfl, ho⟩
  replace HK := Lib.hid (HK.out.step ho)
  replace H1 := Lib.hid (H1.out.only ho)
  replace H2 := Lib.hid (H2.out.only ho)
  clear ho i0 i1 i2 j0 j1 j2
  go_wp2_with fail
  (with_reducible refine (alive5_any _ (Lib.hid (hT.out.keep HK.out.only))).mono ?_)
  rintro e w2 ⟨rfl, ho⟩
  replace HK := Lib.hid (HK.out.step ho)
  replace H1 := Lib.hid (H1.out.only ho)
  replace H2 := Lib.hid (H2.out.only ho)
  clear ho
  obtain ⟨i0, i1, i2, -, -, -⟩ := HK.out.c3 1 rfl
  obtain ⟨j0, j1, j2, -, -, -⟩ := HK.out.c3 0 rfl
  go_wp2_with fail
  (with_reducible refine (of_b n1 n2 A1 A2 L1 L2 c1 c2 x y lo hi _ N HZ1 HZ2 H1 H2 hl1 hl2 BX BY (by omega) cm HCM.out (Lib.hid ⟨HLH.out.1, fun h => HLH.out.2 (by omega)⟩)).mono ?_)
  rintro e w3 ⟨s3, A3, k3, c3, t3, B3, m3, d3, rfl, hv1, hv2, ho⟩
  have hk := (HK.out.step ho).new 51 [.bool s3, .slice A3 k3 c3, .int .i64 lo.e, .bool t3, .slice B3 m3 d3, .int .i64 hi.e]
  have ha := (Only.refl [] w3).alloc (.cells #[.bool s3, .slice A3 k3 c3, .int .i64 lo.e, .bool t3, .slice B3 m3 d3, .int .i64 hi.e] 51)
  have hi_ := ((IVL.nil w3).cons hv2).cons hv1
  have HI := Lib.hid (hi_.step ha)
  have hbv : BV w3 (.agg #[.bool s3, .slice A3 k3 c3, .int .i64 lo.e, .bool t3, .slice B3 m3 d3, .int .i64 hi.e]) lo hi := ⟨_, _, _, _, _, _, _, _, rfl, hv1, hv2⟩
  have HBV := Lib.hid (hbv.only ha)
  replace HK := Lib.hid hk
  clear hk ha hi_ hbv hv1 hv2 ho H1 H2 i0 i1 i2 j0 j1 j2
  obtain ⟨q0, q1, q2, q3, q4, q5⟩ := HK.out.c6 0 rfl
  go_wp2_with fail
  (with_reducible refine (bsign_b p ok HP.out HOK.out HBV).mono ?_)
  rintro e w4 ⟨rfl, ho⟩
  replace HK := Lib.hid (HK.out.step ho)
  replace HI := Lib.hid (HI.out.step ho)
  replace HBV := Lib.hid (HBV.out.only ho)
  clear ho
  clear q0 q1 q2 q3 q4 q5
  obtain ⟨q0, q1, q2, q3, q4, q5⟩ := HK.out.c6 0 rfl
  go_wp2_with fail
  (with_reducible refine (not_b HBV BLO BHI (by omega) (Lib.hid (hT.out.keep HK.out.only))).mono ?_)
  rintro e w5 ⟨s5, A5, k5, c5, t5, B5, m5, d5, rfl, -, hv1, -, hv2, ho⟩
  have HN : Hid (BV w5 (.agg #[.bool s5, .slice A5 k5 c5, .int .i64 (dNot hi).e, .bool t5, .slice B5 m5 d5, .int .i64 (dNot lo).e]) (dNot hi) (dNot lo)) := ⟨_, _, _, _, _, _, _, _, rfl, hv1, hv2⟩
  replace HK := Lib.hid (HK.out.step ho)
  replace HI := Lib.hid (HI.out.step ho)
  replace HBV := Lib.hid (HBV.out.only ho)
  clear ho hv1 hv2
  clear q0 q1 q2 q3 q4 q5
  go_wp2_with fail
  (with_reducible refine (bsign_b (-p) ok HNP.out HNOK.out HN).mono ?_)
  rintro e w6 ⟨rfl, ho⟩
  replace HK := Lib.hid (HK.out.step ho)
  replace HI := Lib.hid (HI.out.step ho)
  replace HBV := Lib.hid (HBV.out.only ho)
  clear ho HN
  go_wp2_with fail
  (with_reducible refine (real_d (x := ⟨0, 0⟩) (Lib.hid (rd_zero _)) (Lib.hid (bnd_zero 4)) (by omega)).mono ?_)
  rintro e w7 ⟨s7, A7, k7, c7, rfl, hv, ho⟩
  replace HK := Lib.hid (HK.out.step ho)
  replace HI := Lib.hid (HI.out.step ho)
  replace HBV := Lib.hid (HBV.out.only ho)
  have hk := HK.out.new 37 [.bool s7, .slice A7 k7 c7, .int .i64 0]
  have ha := (Only.refl [] w7).alloc (.cells #[.bool s7, .slice A7 k7 c7, .int .i64 0] 37)
  have hi_ := (HI.out.cons hv).step ha
  replace HI := Lib.hid hi_
  replace HBV := Lib.hid (HBV.out.only ha)
  replace HK := Lib.hid hk
  clear hk ha hi_ hv ho
  go_upto_region 7 with fail
  generalize w7.heap.size = gz at *
  generalize w7.alloc _ = w8 at *
  apply wp_region_typed2 (by kernel_rfl) [isV _, isV _, isRD rl, isV _, isV _, isV _, isRD rh, isV _, isV _, isV _] [[], [0], [1], [2], [], [4], [5], [6], [3], [7]] (by kernel_rfl) (by kernel_rfl)
  case ho =>
    refine owes2_cons (fun wx hox => ?_) ?_
    · skip
      skip
      refine withs_plain rfl ?_
      simp only [withs, List.getElem?_cons_zero, List.getElem?_cons_succ, Option.bind, Option.getD]
      repeat (first | (with_reducible refine all_isV ?_) | (with_reducible refine all_isRD ?_; intro sx Ax kx cx hvx hwx) | (with_reducible refine all_isRN ?_; intro Ax kx cx hvx) | (with_reducible refine all_isD ?_; intro sx Ax kx cx hvx hwx))
      go_simp
      exact ⟨Only.refl _ _, isV.self _ _⟩
    refine owes2_cons (fun wx hox => ?_) ?_
    · skip
      have hk := HK.out.step hox
      obtain ⟨q0, q1, q2, q3, q4, q5⟩ := hk.c6 1 rfl
      have ivl := DV.of (IVL.at (Lib.hid (HI.out.step hox)) 1 rfl)
      have ivh := DV.of (IVL.at (Lib.hid (HI.out.step hox)) 2 rfl)
      refine withs_plain rfl ?_
      simp only [withs, List.getElem?_cons_zero, List.getElem?_cons_succ, Option.bind, Option.getD]
      repeat (first | (with_reducible refine all_isV ?_) | (with_reducible refine all_isRD ?_; intro sx Ax kx cx hvx hwx) | (with_reducible refine all_isRN ?_; intro Ax kx cx hvx) | (with_reducible refine all_isD ?_; intro sx Ax kx cx hvx hwx))
      go_simp
      exact ⟨Only.refl _ _, isV.self _ _⟩
    refine owes2_cons (fun wx hox => ?_) ?_
    · skip
      have hk := HK.out.step hox
      obtain ⟨q0, q1, q2, q3, q4, q5⟩ := hk.c6 1 rfl
      have ivl := DV.of (IVL.at (Lib.hid (HI.out.step hox)) 1 rfl)
      have ivh := DV.of (IVL.at (Lib.hid (HI.out.step hox)) 2 rfl)
      refine withs_plain rfl ?_
      simp only [withs, List.getElem?_cons_zero, List.getElem?_cons_succ, Option.bind, Option.getD]
      repeat (first | (with_reducible refine all_isV ?_) | (with_reducible refine all_isRD ?_; intro sx Ax kx cx hvx hwx) | (with_reducible refine all_isRN ?_; intro Ax kx cx hvx) | (with_reducible refine all_isD ?_; intro sx Ax kx cx hvx hwx))
      go_simp
      (with_reducible exact grow_rd (rrefV_d rl HRL.out ivl BLO (by omega)))
    refine owes2_cons (fun wx hox => ?_) ?_
    · skip
      have hk := HK.out.step hox
      obtain ⟨q0, q1, q2, q3, q4, q5⟩ := hk.c6 1 rfl
      have ivl := DV.of (IVL.at (Lib.hid (HI.out.step hox)) 1 rfl)
      have ivh := DV.of (IVL.at (Lib.hid (HI.out.step hox)) 2 rfl)
      refine withs_plain rfl ?_
      simp only [withs, List.getElem?_cons_zero, List.getElem?_cons_succ, Option.bind, Option.getD]
      repeat (first | (with_reducible refine all_isV ?_) | (with_reducible refine all_isRD ?_; intro sx Ax kx cx hvx hwx) | (with_reducible refine all_isRN ?_; intro Ax kx cx hvx) | (with_reducible refine all_isD ?_; intro sx Ax kx cx hvx hwx))
      go_simp
      (with_reducible exact grow_of (rsign_d sl (RD.of (by assumption) (by assumption)) HSL.out))
    refine owes2_cons (fun wx hox => ?_) ?_
    · skip
      skip
      refine withs_plain rfl ?_
      simp only [withs, List.getElem?_cons_zero, List.getElem?_cons_succ, Option.bind, Option.getD]
      repeat (first | (with_reducible refine all_isV ?_) | (with_reducible refine all_isRD ?_; intro sx Ax kx cx hvx hwx) | (with_reducible refine all_isRN ?_; intro Ax kx cx hvx) | (with_reducible refine all_isD ?_; intro sx Ax kx cx hvx hwx))
      go_simp
      exact ⟨Only.refl _ _, isV.self _ _⟩
    refine owes2_cons (fun wx hox => ?_) ?_
    · skip
      have hk := HK.out.step hox
      obtain ⟨q0, q1, q2, q3, q4, q5⟩ := hk.c6 1 rfl
      have ivl := DV.of (IVL.at (Lib.hid (HI.out.step hox)) 1 rfl)
      have ivh := DV.of (IVL.at (Lib.hid (HI.out.step hox)) 2 rfl)
      refine withs_plain rfl ?_
      simp only [withs, List.getElem?_cons_zero, List.getElem?_cons_succ, Option.bind, Option.getD]
      repeat (first | (with_reducible refine all_isV ?_) | (with_reducible refine all_isRD ?_; intro sx Ax kx cx hvx hwx) | (with_reducible refine all_isRN ?_; intro Ax kx cx hvx) | (with_reducible refine all_isD ?_; intro sx Ax kx cx hvx hwx))
      go_simp
      exact ⟨Only.refl _ _, isV.self _ _⟩
    refine owes2_cons (fun wx hox => ?_) ?_
    · skip
      have hk := HK.out.step hox
      obtain ⟨q0, q1, q2, q3, q4, q5⟩ := hk.c6 1 rfl
      have ivl := DV.of (IVL.at (Lib.hid (HI.out.step hox)) 1 rfl)
      have ivh := DV.of (IVL.at (Lib.hid (HI.out.step hox)) 2 rfl)
      refine withs_plain rfl ?_
      simp only [withs, List.getElem?_cons_zero, List.getElem?_cons_succ, Option.bind, Option.getD]
      repeat (first | (with_reducible refine all_isV ?_) | (with_reducible refine all_isRD ?_; intro sx Ax kx cx hvx hwx) | (with_reducible refine all_isRN ?_; intro Ax kx cx hvx) | (with_reducible refine all_isD ?_; intro sx Ax kx cx hvx hwx))
      go_simp
      (with_reducible exact grow_rd (rrefV_d rh HRH.out ivh BHI (by omega)))
    refine owes2_cons (fun wx hox => ?_) ?_
    · skip
      have hk := HK.out.step hox
      obtain ⟨q0, q1, q2, q3, q4, q5⟩ := hk.c6 1 rfl
      have ivl := DV.of (IVL.at (Lib.hid (HI.out.step hox)) 1 rfl)
      have ivh := DV.of (IVL.at (Lib.hid (HI.out.step hox)) 2 rfl)
      refine withs_plain rfl ?_
      simp only [withs, List.getElem?_cons_zero, List.getElem?_cons_succ, Option.bind, Option.getD]
      repeat (first | (with_reducible refine all_isV ?_) | (with_reducible refine all_isRD ?_; intro sx Ax kx cx hvx hwx) | (with_reducible refine all_isRN ?_; intro Ax kx cx hvx) | (with_reducible refine all_isD ?_; intro sx Ax kx cx hvx hwx))
      go_simp
      (with_reducible exact grow_of (rsign_d sh (RD.of (by assumption) (by assumption)) HSH.out))
    refine owes2_cons (fun wx hox => ?_) ?_
    · skip
      skip
      refine withs_plain rfl ?_
      simp only [withs, List.getElem?_cons_zero, List.getElem?_cons_succ, Option.bind, Option.getD]
      repeat (first | (with_reducible refine all_isV ?_) | (with_reducible refine all_isRD ?_; intro sx Ax kx cx hvx hwx) | (with_reducible refine all_isRN ?_; intro Ax kx cx hvx) | (with_reducible refine all_isD ?_; intro sx Ax kx cx hvx hwx))
      go_simp
      exact ⟨Only.refl _ _, isV.self _ _⟩
    refine owes2_cons (fun wx hox => ?_) ?_
    · skip
      skip
      refine withs_plain rfl ?_
      simp only [withs, List.getElem?_cons_zero, List.getElem?_cons_succ, Option.bind, Option.getD]
      repeat (first | (with_reducible refine all_isV ?_) | (with_reducible refine all_isRD ?_; intro sx Ax kx cx hvx hwx) | (with_reducible refine all_isRN ?_; intro Ax kx cx hvx) | (with_reducible refine all_isD ?_; intro sx Ax kx cx hvx hwx))
      go_simp
      exact ⟨Only.refl _ _, isV.self _ _⟩
    exact owes2_nil
  case he =>
    intro wx hox
    refine withs_of (by simp only [List.length, List.range, List.range.loop]; exact rfl) ?_
    simp only [withs, List.getElem?_cons_zero, List.getElem?_cons_succ, Option.bind, Option.getD]
    repeat (first | (with_reducible refine all_isV ?_) | (with_reducible refine all_isRD ?_; intro sx Ax kx cx hvx hwx) | (with_reducible refine all_isRN ?_; intro Ax kx cx hvx) | (with_reducible refine all_isD ?_; intro sx Ax kx cx hvx hwx))
    go_simp
    replace HK := Lib.hid (HK.out.step hox)
    replace HI := Lib.hid (HI.out.step hox)
    replace HBV := Lib.hid (HBV.out.only hox)
    clear hox
    rcases hcase with ⟨rfl, rfl, rfl, rfl, rfl⟩ | ⟨rfl, rfl, rfl, rfl, rfl⟩ | ⟨rfl, rfl, rfl, rfl, rfl⟩ | ⟨rfl, rfl, rfl, rfl, rfl⟩ | ⟨rfl, rfl, rfl, rfl, rfl⟩ | ⟨rfl, rfl, rfl, rfl, rfl⟩
    · skip
      obtain ⟨q0, q1, q2, q3, q4, q5⟩ := HK.out.c6 1 rfl
      obtain ⟨i0, i1, i2, -, -, -⟩ := HK.out.c3 0 rfl
      go_wp2_with fail
      (with_reducible refine (has_b (z := ⟨0, 0⟩) _ HR.out HBV (DV.of (IVL.at HI 0 rfl)) BLO BHI (Lib.hid (bnd_zero N)) (by omega)).mono ?_)
      rintro e w9 ⟨rfl, ho⟩
      replace HK := Lib.hid (HK.out.step ho)
      clear ho
      go_wp2_with fail
      go_ret
      exact ⟨rfl, HK.out.only⟩
    · skip
      obtain ⟨q0, q1, q2, q3, q4, q5⟩ := HK.out.c6 1 rfl
      obtain ⟨i0, i1, i2, -, -, -⟩ := HK.out.c3 0 rfl
      go_wp2_with fail
      (with_reducible refine (has_b (z := ⟨0, 0⟩) _ HR.out HBV (DV.of (IVL.at HI 0 rfl)) BLO BHI (Lib.hid (bnd_zero N)) (by omega)).mono ?_)
      rintro e w9 ⟨rfl, ho⟩
      replace HK := Lib.hid (HK.out.step ho)
      clear ho
      go_wp2_with fail
      go_ret
      exact ⟨rfl, HK.out.only⟩
    · skip
      obtain ⟨q0, q1, q2, q3, q4, q5⟩ := HK.out.c6 1 rfl
      obtain ⟨i0, i1, i2, -, -, -⟩ := HK.out.c3 0 rfl
      go_wp2_with fail
      (with_reducible refine (has_b (z := ⟨0, 0⟩) _ HR.out HBV (DV.of (IVL.at HI 0 rfl)) BLO BHI (Lib.hid (bnd_zero N)) (by omega)).mono ?_)
      rintro e w9 ⟨rfl, ho⟩
      replace HK := Lib.hid (HK.out.step ho)
      clear ho
      go_wp2_with fail
      go_ret
      exact ⟨rfl, HK.out.only⟩
    · skip
      obtain ⟨q0, q1, q2, q3, q4, q5⟩ := HK.out.c6 1 rfl
      obtain ⟨i0, i1, i2, -, -, -⟩ := HK.out.c3 0 rfl
      go_wp2_with fail
      (with_reducible refine (has_b (z := ⟨0, 0⟩) _ HR.out HBV (DV.of (IVL.at HI 0 rfl)) BLO BHI (Lib.hid (bnd_zero N)) (by omega)).mono ?_)
      rintro e w9 ⟨rfl, ho⟩
      replace HK := Lib.hid (HK.out.step ho)
      clear ho
      go_wp2_with fail
      go_ret
      exact ⟨rfl, HK.out.only⟩
    · skip
      obtain ⟨q0, q1, q2, q3, q4, q5⟩ := HK.out.c6 1 rfl
      obtain ⟨i0, i1, i2, -, -, -⟩ := HK.out.c3 0 rfl
      go_wp2_with fail
      (with_reducible refine (has_b (z := ⟨0, 0⟩) _ HR.out HBV (DV.of (IVL.at HI 0 rfl)) BLO BHI (Lib.hid (bnd_zero N)) (by omega)).mono ?_)
      rintro e w9 ⟨rfl, ho⟩
      replace HK := Lib.hid (HK.out.step ho)
      clear ho
      go_wp2_with fail
      go_ret
      exact ⟨rfl, HK.out.only⟩
    · skip
      obtain ⟨q0, q1, q2, q3, q4, q5⟩ := HK.out.c6 1 rfl
      obtain ⟨i0, i1, i2, -, -, -⟩ := HK.out.c3 0 rfl
      go_wp2_with fail
      (with_reducible refine (has_b (z := ⟨0, 0⟩) _ HR.out HBV (DV.of (IVL.at HI 0 rfl)) BLO BHI (Lib.hid (bnd_zero N)) (by omega)).mono ?_)
      rintro e w9 ⟨rfl, ho⟩
      replace HK := Lib.hid (HK.out.step ho)
      clear ho
      go_wp2_with fail
      go_ret
      exact ⟨rfl, HK.out.only⟩
  case hl =>
    repeat (refine List.forall_mem_cons.2 ⟨?_, ?_⟩; first | exact isV.lasts _ | exact isRD.lasts _ | exact isRN.lasts _ | exact isD.lasts _ | exact isNV.lasts _ | exact isDV.lasts _ | exact isWV.lasts _ | exact isWC.lasts _ | exact isNR.lasts _ _ | exact isWR.lasts _ _ | exact isRow.lasts _ _ _ | exact isPtr.lasts _ _ _ | exact isRow1.lasts _)
    exact fun _ h => (by cases h)

theorem ballSigns_any (n1 : Bool) (A1 : Option Addr) (c1 : Nat) (L1 : List Nat) (e1 : Int) (n2 : Bool) (A2 : Option Addr) (c2 : Nat) (L2 : List Nat) (e2 : Int) (w : World)
    (h1 : LimbsIn w A1 L1) (_ : L1.length ≤ c1) (_ : c1 ≤ maxLen) (_ : -9223372036854775808 ≤ e1 ∧ e1 ≤ 9223372036854775807) (h2 : LimbsIn w A2 L2) (_ : L2.length ≤ c2) (_ : c2 ≤ maxLen) (_ : -9223372036854775808 ≤ e2 ∧ e2 ≤ 9223372036854775807) (hT : Tab6 w) :
    Calls Tryd.prog 4 #[.agg #[.bool n1, .slice A1 L1.length c1, .int .i64 e1], .agg #[.bool n2, .slice A2 L2.length c2, .int .i64 e2]] w fun e w' => e = .returned (.bool true) ∧ Only [] w w' := by
  cases hl : lightN [⟨n1, A1, L1.length, c1, e1⟩, ⟨n2, A2, L2.length, c2, e2⟩] with
  | false => exact bsigns_out n1 n2 A1 A2 L1 L2 c1 c2 e1 e2 w (Lib.hid hT) hl
  | true =>
    simp only [lightN, List.all_cons, List.all_nil, NR.ok, Bool.and_true, Bool.and_eq_true, decide_eq_true_eq] at hl
    obtain ⟨x, hx⟩ : ∃ x : Dy, x = ⟨sg n1 (val L1), e1⟩ := ⟨_, rfl⟩
    obtain ⟨y, hy⟩ : ∃ y : Dy, y = ⟨sg n2 (val L2), e2⟩ := ⟨_, rfl⟩
    have hxe : x.e = e1 := by rw [hx]
    have hye : y.e = e2 := by rw [hy]
    have hxz : sg n1 (val L1) = x.z := by rw [hx]
    have hyz : sg n2 (val L2) = y.z := by rw [hy]
    obtain ⟨N, hN⟩ : ∃ N : Nat, N = 4000 := ⟨_, rfl⟩
    have BX : Bnd N x := num_bnd (by omega) (by omega) h1.2 hxz (by omega) (by omega)
    have BY : Bnd N y := num_bnd (by omega) (by omega) h2.2 hyz (by omega) (by omega)
    obtain ⟨lo, hi, hLH, hle, BL, BH⟩ : ∃ lo hi : Dy, ((0 < cmpQ x.q y.q → y = lo ∧ x = hi) ∧ (¬ 0 < cmpQ x.q y.q → x = lo ∧ y = hi)) ∧ lo.q ≤ hi.q ∧ Bnd N lo ∧ Bnd N hi := by
      by_cases h : 0 < cmpQ x.q y.q
      · exact ⟨y, x, ⟨fun _ => ⟨rfl, rfl⟩, fun hc => absurd h hc⟩, by have := cmpQ_gt0.1 h; grind, BY, BX⟩
      · exact ⟨x, y, ⟨fun hc => absurd hc h, fun _ => ⟨rfl, rfl⟩⟩, by have : ¬ y.q < x.q := fun hc => h (cmpQ_gt0.2 hc); grind, BX, BY⟩
    have e0 : Dy.q ⟨0, 0⟩ = 0 := zero_q
    have nl : (dNot lo).z.sign = -lo.z.sign := by rw [dNot, nrm_sgn, Int.sign_neg]
    have nh : (dNot hi).z.sign = -hi.z.sign := by rw [dNot, nrm_sgn, Int.sign_neg]
    have sl := sign_of lo.z
    have sh := sign_of hi.z
    have ql := q_pos (x := lo)
    have ql' := q_neg (x := lo)
    have qh := q_pos (x := hi)
    have qh' := q_neg (x := hi)
    rw [← hxe, ← hye]
    refine bsigns_in n1 n2 A1 A2 L1 L2 c1 c2 x y lo hi _ _ w N (Lib.hid hxz) (Lib.hid hyz) (Lib.hid h1) (Lib.hid h2) (Lib.hid hT) (by omega) (by omega) (by omega) (by omega) (Lib.hid BX) (Lib.hid BY) (Lib.hid BL) (Lib.hid BH) (by omega) _ (Lib.hid rfl) (Lib.hid hLH) lo.z.sign hi.z.sign _ _ _ (Lib.hid rfl) (Lib.hid rfl) (Lib.hid ?_) (Lib.hid ?_) (Lib.hid rfl) (Lib.hid rfl) (Lib.hid (nrm_sgn _ _)) (Lib.hid (nrm_sgn _ _)) (Lib.hid rfl) ?_
    · rw [nl, nh]
      by_cases h : lo.z.sign = hi.z.sign
      · rw [if_pos (by omega), if_pos h]; omega
      · rw [if_neg (by omega), if_neg h]; rfl
    · rw [nl, nh]
      exact decide_eq_decide.2 (by omega)
    · rw [e0]
      rcases sl with ⟨a1, a2⟩ | ⟨a1, a2⟩ | ⟨a1, a2⟩ <;> rcases sh with ⟨b1, b2⟩ | ⟨b1, b2⟩ | ⟨b1, b2⟩ <;> rw [a1, b1]
      · have g1 := ql'.2 a2
        have g2 := qh'.2 b2
        left
        refine ⟨rfl, rfl, rfl, rfl, ?_⟩
        rw [Bool.and_eq_false_iff]; right; exact decide_eq_false (by grind)
      · have g1 := ql'.2 a2
        have g2 := q_zero.2 b2
        right; left
        refine ⟨rfl, rfl, rfl, rfl, ?_⟩
        rw [Bool.and_eq_true]; exact ⟨decide_eq_true (by grind), decide_eq_true (by grind)⟩
      · have g1 := ql'.2 a2
        have g2 := qh.2 b2
        right; right; left
        refine ⟨rfl, rfl, rfl, rfl, ?_⟩
        rw [Bool.and_eq_true]; exact ⟨decide_eq_true (by grind), decide_eq_true (by grind)⟩
      · have g1 := q_zero.2 a2
        have g2 := qh'.2 b2
        exfalso; grind
      · have g1 := q_zero.2 a2
        have g2 := q_zero.2 b2
        right; right; right; left
        refine ⟨rfl, rfl, rfl, rfl, ?_⟩
        rw [Bool.and_eq_true]; exact ⟨decide_eq_true (by grind), decide_eq_true (by grind)⟩
      · have g1 := q_zero.2 a2
        have g2 := qh.2 b2
        right; right; right; right; left
        refine ⟨rfl, rfl, rfl, rfl, ?_⟩
        rw [Bool.and_eq_true]; exact ⟨decide_eq_true (by grind), decide_eq_true (by grind)⟩
      · have g1 := ql.2 a2
        have g2 := qh'.2 b2
        exfalso; grind
      · have g1 := ql.2 a2
        have g2 := q_zero.2 b2
        exfalso; grind
      · have g1 := ql.2 a2
        have g2 := qh.2 b2
        right; right; right; right; right
        refine ⟨rfl, rfl, rfl, rfl, ?_⟩
        rw [Bool.and_eq_false_iff]; left; exact decide_eq_false (by grind)

end Go.Proofs.YtgiejjpemhceiaaDoor
