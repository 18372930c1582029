/-
  DyadExact: what is looked at.
-/
import Derived.Test.YtphjcphcgnjogaaDoorLawDxA
namespace Go.Proofs.YtphjcphcgnjogaaDoor
set_option linter.unusedSimpArgs false
open Go.RowKit

set_option maxHeartbeats 3200000 in
set_option maxRecDepth 100000 in
theorem dexact_in (n1 n2 : Bool) (A1 A2 : Option Addr) (L1 L2 : List Nat) (c1 c2 : Nat) (x y : Dy) (p : Int) (w : World) (HZ1 : Hid (sg n1 (val L1) = x.z)) (HZ2 : Hid (sg n2 (val L2) = y.z)) (H1 : Hid (LimbsIn w A1 L1)) (H2 : Hid (LimbsIn w A2 L2)) (htab : Hid (Tab w)) (hT : Hid (Tab6 w))
    (hl1 : (L1.length : Int) ≤ 40) (hl2 : (L2.length : Int) ≤ 40) (q1 : ¬ 3 < (L1.length : Int)) (q2 : ¬ 3 < (L2.length : Int)) (q3 : ¬ p < 400) (q4 : ¬ 500 < p) (he1 : -3000 ≤ x.e ∧ x.e ≤ 3000) (he2 : -3000 ≤ y.e ∧ y.e ≤ 3000) :
    Calls Tryd.prog 8 #[.agg #[.bool n1, .slice A1 L1.length c1, .int .i64 x.e], .agg #[.bool n2, .slice A2 L2.length c2, .int .i64 y.e], .int .i64 p] w fun e w' => e = .returned (.bool true) ∧ Only [] w w' := by
  obtain ⟨N, hN⟩ : ∃ N : Nat, N = 3000 := ⟨_, rfl⟩
  have BX : Hid (Bnd N x) := num_bnd (by omega) (by omega) H1.out.2 HZ1.out he1.1 he1.2
  have BY : Hid (Bnd N y) := num_bnd (by omega) (by omega) H2.out.2 HZ2.out he2.1 he2.2
  have hN3 : N ≤ 3000 := by omega
  have hPr : widthP p ≤ 500 ∧ 400 ≤ widthP p := by unfold widthP; omega
  have HSX : Hid (Short (widthP p) x) := by
    show x.z.natAbs < _
    rw [← HZ1.out, sg_abs]
    exact Nat.lt_of_lt_of_le (val_lt H1.out.2) (by rw [bb_two_pow]; exact two_mono (by omega))
  have hP1 : 1 ≤ widthP p := by omega
  have BC : Hid (Bnd (4 * N) (dMul x y)) := BX.out.mul BY.out (Nat.le_refl _)
  have BQ : Hid (Bnd (4 * N) (dMul x x)) := BX.out.mul BX.out (Nat.le_refl _)
  have BYC : Hid (Bnd (4 * N) y) := BY.out.mono (by omega)
  obtain ⟨c, hc⟩ : ∃ c, dMul x y = c := ⟨_, rfl⟩
  rw [hc] at BC
  have HC := Lib.hid hc
  obtain ⟨d, hd⟩ : ∃ d, quoQ (widthP p) (decide ((0 : Int) ≤ -1)) c y = d := ⟨_, rfl⟩
  obtain ⟨e', he'⟩ : ∃ d, quoQ (widthP p) (decide ((0 : Int) ≤ 1)) c y = d := ⟨_, rfl⟩
  obtain ⟨s, hs⟩ : ∃ d, sqrtQ (widthP p) (decide ((0 : Int) ≤ -1)) (dMul x x) = d := ⟨_, rfl⟩
  obtain ⟨t, ht⟩ : ∃ d, sqrtQ (widthP p) (decide ((0 : Int) ≤ 1)) (dMul x x) = d := ⟨_, rfl⟩
  obtain ⟨r1, hr1⟩ : ∃ d, rndD (widthP p) (decide ((0 : Int) ≤ -1)) x = d := ⟨_, rfl⟩
  obtain ⟨r2, hr2⟩ : ∃ d, rndD (widthP p) (decide ((0 : Int) ≤ 1)) x = d := ⟨_, rfl⟩
  have BD : Hid (Bnd (60 * N + 3600) d) := by rw [← hd]; exact quoQ_bnd BC.out BYC.out (by omega)
  have BE : Hid (Bnd (60 * N + 3600) e') := by rw [← he']; exact quoQ_bnd BC.out BYC.out (by omega)
  have BXD : Hid (Bnd (60 * N + 3600) x) := BX.out.mono (by omega)
  have BS : Hid (Bnd (36 * N + 8100) s) := by rw [← hs]; exact sqrtQ_bnd BQ.out (by omega)
  have BT : Hid (Bnd (36 * N + 8100) t) := by rw [← ht]; exact sqrtQ_bnd BQ.out (by omega)
  have BR1 : Hid (Bnd (3 * N + 600) r1) := by rw [← hr1]; exact rnd_bnd BX.out (by omega)
  have BR2 : Hid (Bnd (3 * N + 600) r2) := by rw [← hr2]; exact rnd_bnd BX.out (by omega)
  have BXR : Hid (Bnd (3 * N + 600) x) := BX.out.mono (by omega)
  have BSS : Hid (Bnd (4 * (36 * N + 8100)) (dMul s s)) := BS.out.mul BS.out (Nat.le_refl _)
  have BXX : Hid (Bnd (4 * (36 * N + 8100)) (dMul x x)) := BQ.out.mono (by omega)
  have es : s.q = (absD x).q := by rw [← hs]; exact sqrt_exact hP1 HSX.out
  have et : t.q = (absD x).q := by rw [← ht]; exact sqrt_exact hP1 HSX.out
  obtain ⟨a1, a2⟩ := absD_q x
  have QR1 : Hid (cmpQ r1.q x.q = 0) := cmpQ_eq (by rw [← hr1]; exact rnd_exact hP1 HSX.out)
  have QR2 : Hid (cmpQ r2.q x.q = 0) := cmpQ_eq (by rw [← hr2]; exact rnd_exact hP1 HSX.out)
  have QST : Hid (cmpQ s.q t.q = 0) := cmpQ_eq (by rw [es, et])
  have QSS : Hid (cmpQ (dMul s s).q (dMul x x).q = 0) := cmpQ_eq (by rw [dMul_q, dMul_q, es, a2])
  have HOK : Hid (decide (0 ≤ (dMul x x).z) = true) := decide_eq_true (by
    apply Int.not_lt.1
    intro hlt
    have h1 := q_neg.2 hlt
    have h2 := sq_le (a := 0) (b := (absD x).q) Rat.le_refl a1
    rw [dMul_q, ← a2] at h1
    grind)
  obtain ⟨ps, hps⟩ : ∃ p, s.z.sign = p := ⟨_, rfl⟩
  have hps0 : 0 ≤ ps := by
    rw [← hps, ← q_sign]
    rcases rat_tri s.q 0 with h | h | h
    · rw [es] at h; grind
    · rw [cmpQ_eq h]; decide
    · rw [cmpQ_gt h]; decide
  have hps1 : decide (0 ≤ ps) = true := decide_eq_true hps0
  have HPS := Lib.hid hps
  have HD := Lib.hid hd
  have HE' := Lib.hid he'
  have HS := Lib.hid hs
  have HT' := Lib.hid ht
  have HR1 := Lib.hid hr1
  have HR2 := Lib.hid hr2
  have HL : Hid (lightN [⟨n1, A1, L1.length, c1, x.e⟩, ⟨n2, A2, L2.length, c2, y.e⟩] = true) := by
    show _ = _
    simp only [lightN, List.all_cons, List.all_nil, NR.ok, Bool.and_true, Bool.and_eq_true, decide_eq_true_eq]
    omega
  clear hN hc hd he' hs ht hr1 hr2 hps es et a1 a2
  have hal : ∀ w : World, (Instr.alloc 51 true (.tuple #[])).run Tryd.prog w = .ok (.pointer (some ⟨w.heap.size, 0, none⟩)) (w.alloc (.cells #[.bool false, .slice none 0 0, .int .i64 0] 51)) := fun _ => by kernel_rfl
  have HAL := Lib.hid hal
  have hlv := light3_v (w := (w.alloc (.cells #[.bool n1, .slice A1 L1.length c1, .int .i64 x.e] 48)).alloc (.cells #[.bool n2, .slice A2 L2.length c2, .int .i64 y.e] 48)) [⟨n1, A1, L1.length, c1, x.e⟩, ⟨n2, A2, L2.length, c2, y.e⟩] 2 (Lib.hid rfl) (by omega)
  rw [HL.out] at hlv
  simp only [flatN, List.flatMap_cons, List.flatMap_nil, List.cons_append, List.nil_append, World.size_alloc] at hlv
  have hk := ((KB.start w).new 48 [.bool n1, .slice A1 L1.length c1, .int .i64 x.e]).new 48 [.bool n2, .slice A2 L2.length c2, .int .i64 y.e]
  simp only [World.size_alloc] at hk
  have HK := Lib.hid hk
  have HLV := Lib.hid hlv
  replace H1 := Lib.hid (H1.out.only hk.only)
  replace H2 := Lib.hid (H2.out.only hk.only)
  clear hlv hk hal HL
  go_enter Tryd.func8, Tryd.ntmps8
  go_wp2_with fail
  (with_reducible refine HLV.out.mono ?_)
  rintro e w1 ⟨rfl, ho⟩
  replace HK := Lib.hid (HK.out.step ho)
  replace H1 := Lib.hid (H1.out.only ho)
  replace H2 := Lib.hid (H2.out.only ho)
  clear ho HLV
  obtain ⟨i0, i1, i2, -, -, -⟩ := HK.out.c3 1 rfl
  obtain ⟨j0, j1, j2, -, -, -⟩ := HK.out.c3 0 rfl
  go_wp2_with fail
  (with_reducible refine (alive3_any _ (Lib.hid (htab.out.only HK.out.only)) (Lib.hid (hT.out.keep HK.out.only))).mono ?_)
  rintro e wq ⟨rfl, ho⟩
  replace HK := Lib.hid (HK.out.step ho)
  replace H1 := Lib.hid (H1.out.only ho)
  replace H2 := Lib.hid (H2.out.only ho)
  clear ho i0 i1 i2 j0 j1 j2
  go_upto_region 3 with fail
  have hal := HAL.out
  apply wp_region_typed_tail3 6 [4, 5] 51 #[.bool false, .slice none 0 0, .int .i64 0] (by kernel_rfl) (by kernel_rfl) hal (by kernel_rfl) [isV _, isDV x, isV _, isDV y, isPtr wq 51 [.bool false, .slice none 0 0, .int .i64 0], isPtr wq 51 [.bool false, .slice none 0 0, .int .i64 0]] [[], [0], [], [2], [], []] (by kernel_rfl) (by kernel_rfl) (by kernel_rfl)
  case ho =>
    simp only [List.take_succ_cons, List.take_zero]
    refine owes2_cons (fun wx hox => ?_) ?_
    · skip
      have hk := HK.out.step hox
      obtain ⟨i0, i1, i2, -, -, -⟩ := hk.c3 1 rfl
      obtain ⟨j0, j1, j2, -, -, -⟩ := hk.c3 0 rfl
      clear hk
      refine withs_plain rfl ?_
      simp only [withs, List.getElem?_cons_zero, List.getElem?_cons_succ, Option.bind, Option.getD]
      repeat (first | (with_reducible refine all_isV ?_) | (with_reducible refine all_isWC ?_; intro sx Ax kx cx hvx hwx) | (with_reducible refine all_isNR ?_; intro Ax kx cx hvx) | (with_reducible refine all_isNV ?_; intro Ax kx cx hvx) | (with_reducible refine all_isDV ?_; intro sx Ax kx cx hvx) | (with_reducible refine all_isWV ?_; intro sx Ax kx cx hvx) | (with_reducible refine all_isD ?_; intro sx Ax kx cx hvx hwx) | (with_reducible refine all_isRow ?_; intro gx' hbx) | (with_reducible refine all_isPtr ?_; intro gp' hbp hgp))
      go_simp
      exact ⟨Only.refl _ _, isV.self _ _⟩
    refine owes2_cons (fun wx hox => ?_) ?_
    · skip
      have hk := HK.out.step hox
      obtain ⟨i0, i1, i2, -, -, -⟩ := hk.c3 1 rfl
      obtain ⟨j0, j1, j2, -, -, -⟩ := hk.c3 0 rfl
      clear hk
      refine withs_plain rfl ?_
      simp only [withs, List.getElem?_cons_zero, List.getElem?_cons_succ, Option.bind, Option.getD]
      repeat (first | (with_reducible refine all_isV ?_) | (with_reducible refine all_isWC ?_; intro sx Ax kx cx hvx hwx) | (with_reducible refine all_isNR ?_; intro Ax kx cx hvx) | (with_reducible refine all_isNV ?_; intro Ax kx cx hvx) | (with_reducible refine all_isDV ?_; intro sx Ax kx cx hvx) | (with_reducible refine all_isWV ?_; intro sx Ax kx cx hvx) | (with_reducible refine all_isD ?_; intro sx Ax kx cx hvx hwx) | (with_reducible refine all_isRow ?_; intro gx' hbx) | (with_reducible refine all_isPtr ?_; intro gp' hbp hgp))
      go_simp
      (with_reducible exact grow_dv (numOfV_any n1 A1 L1 c1 x _ HZ1.out (Lib.hid (H1.out.only hox)) hl1))
    refine owes2_cons (fun wx hox => ?_) ?_
    · skip
      have hk := HK.out.step hox
      obtain ⟨i0, i1, i2, -, -, -⟩ := hk.c3 1 rfl
      obtain ⟨j0, j1, j2, -, -, -⟩ := hk.c3 0 rfl
      clear hk
      refine withs_plain rfl ?_
      simp only [withs, List.getElem?_cons_zero, List.getElem?_cons_succ, Option.bind, Option.getD]
      repeat (first | (with_reducible refine all_isV ?_) | (with_reducible refine all_isWC ?_; intro sx Ax kx cx hvx hwx) | (with_reducible refine all_isNR ?_; intro Ax kx cx hvx) | (with_reducible refine all_isNV ?_; intro Ax kx cx hvx) | (with_reducible refine all_isDV ?_; intro sx Ax kx cx hvx) | (with_reducible refine all_isWV ?_; intro sx Ax kx cx hvx) | (with_reducible refine all_isD ?_; intro sx Ax kx cx hvx hwx) | (with_reducible refine all_isRow ?_; intro gx' hbx) | (with_reducible refine all_isPtr ?_; intro gp' hbp hgp))
      go_simp
      exact ⟨Only.refl _ _, isV.self _ _⟩
    refine owes2_cons (fun wx hox => ?_) ?_
    · skip
      have hk := HK.out.step hox
      obtain ⟨i0, i1, i2, -, -, -⟩ := hk.c3 1 rfl
      obtain ⟨j0, j1, j2, -, -, -⟩ := hk.c3 0 rfl
      clear hk
      refine withs_plain rfl ?_
      simp only [withs, List.getElem?_cons_zero, List.getElem?_cons_succ, Option.bind, Option.getD]
      repeat (first | (with_reducible refine all_isV ?_) | (with_reducible refine all_isWC ?_; intro sx Ax kx cx hvx hwx) | (with_reducible refine all_isNR ?_; intro Ax kx cx hvx) | (with_reducible refine all_isNV ?_; intro Ax kx cx hvx) | (with_reducible refine all_isDV ?_; intro sx Ax kx cx hvx) | (with_reducible refine all_isWV ?_; intro sx Ax kx cx hvx) | (with_reducible refine all_isD ?_; intro sx Ax kx cx hvx hwx) | (with_reducible refine all_isRow ?_; intro gx' hbx) | (with_reducible refine all_isPtr ?_; intro gp' hbp hgp))
      go_simp
      (with_reducible exact grow_dv (numOfV_any n2 A2 L2 c2 y _ HZ2.out (Lib.hid (H2.out.only hox)) hl2))
    refine owes2_cons (fun wx hox => ?_) ?_
    · skip
      have hk := HK.out.step hox
      obtain ⟨i0, i1, i2, -, -, -⟩ := hk.c3 1 rfl
      obtain ⟨j0, j1, j2, -, -, -⟩ := hk.c3 0 rfl
      clear hk
      refine withs_plain rfl ?_
      simp only [withs, List.getElem?_cons_zero, List.getElem?_cons_succ, Option.bind, Option.getD]
      repeat (first | (with_reducible refine all_isV ?_) | (with_reducible refine all_isWC ?_; intro sx Ax kx cx hvx hwx) | (with_reducible refine all_isNR ?_; intro Ax kx cx hvx) | (with_reducible refine all_isNV ?_; intro Ax kx cx hvx) | (with_reducible refine all_isDV ?_; intro sx Ax kx cx hvx) | (with_reducible refine all_isWV ?_; intro sx Ax kx cx hvx) | (with_reducible refine all_isD ?_; intro sx Ax kx cx hvx hwx) | (with_reducible refine all_isRow ?_; intro gx' hbx) | (with_reducible refine all_isPtr ?_; intro gp' hbp hgp))
      go_simp
      (exact isPtr.new hox _ _)
    refine owes2_cons (fun wx hox => ?_) ?_
    · skip
      have hk := HK.out.step hox
      obtain ⟨i0, i1, i2, -, -, -⟩ := hk.c3 1 rfl
      obtain ⟨j0, j1, j2, -, -, -⟩ := hk.c3 0 rfl
      clear hk
      refine withs_plain rfl ?_
      simp only [withs, List.getElem?_cons_zero, List.getElem?_cons_succ, Option.bind, Option.getD]
      repeat (first | (with_reducible refine all_isV ?_) | (with_reducible refine all_isWC ?_; intro sx Ax kx cx hvx hwx) | (with_reducible refine all_isNR ?_; intro Ax kx cx hvx) | (with_reducible refine all_isNV ?_; intro Ax kx cx hvx) | (with_reducible refine all_isDV ?_; intro sx Ax kx cx hvx) | (with_reducible refine all_isWV ?_; intro sx Ax kx cx hvx) | (with_reducible refine all_isD ?_; intro sx Ax kx cx hvx hwx) | (with_reducible refine all_isRow ?_; intro gx' hbx) | (with_reducible refine all_isPtr ?_; intro gp' hbp hgp))
      go_simp
      (exact isPtr.new hox _ _)
    exact owes2_nil
  case he =>
    simp only [List.drop_succ_cons, List.drop_zero]
    intro wx hox
    refine withs_of (by simp only [List.length, List.range, List.range.loop]; exact rfl) ?_
    simp only [withs, List.getElem?_cons_zero, List.getElem?_cons_succ, Option.bind, Option.getD]
    with_reducible refine all_isV ?_
    with_reducible refine all_isDV ?_
    intro s1 A1 k1 c1 hv1
    with_reducible refine all_isV ?_
    with_reducible refine all_isDV ?_
    intro s3 A3 k3 c3 hv3
    with_reducible refine all_isPtr ?_
    intro g4 hb4 hg4
    with_reducible refine all_isPtr ?_
    intro g5 hb5 hg5
    go_simp
    intro hap
    have n45 : ¬ g4 = g5 := fun hc => hap 4 (by decide) 5 (by decide) (by decide) 7 8 rfl rfl (by rw [hc]; rfl)
    have m45 : ¬ g5 = g4 := fun hc => n45 hc.symm
    clear hap
    have bl4 := hb4.out
    have bl5 := hb5.out
    have q40 := bl4.cell 0
    have q41 := bl4.cell 1
    have q42 := bl4.cell 2
    have q50 := bl5.cell 0
    have q51 := bl5.cell 1
    have q52 := bl5.cell 2
    have f40 := bl4.frozen 0
    have f41 := bl4.frozen 1
    have f42 := bl4.frozen 2
    have f50 := bl5.frozen 0
    have f51 := bl5.frozen 1
    have f52 := bl5.frozen 2
    simp only [List.getElem?_cons_zero, List.getElem?_cons_succ] at q40 q41 q42 q50 q51 q52
    have hsz := HK.out.only.size
    have he0 : DB w wx [] := (DB.start w).step (HK.out.only.nil_trans hox)
    have he1 := he0.adopt bl4 ⟨_, _, _, rfl⟩ (noLimb3 _ _ _ _ _) (Nat.le_trans hsz hg4.out) (fun i y h => by simp at h) hv1.out
    have he2 := he1.adopt (bl5.set3 m45) ⟨_, _, _, rfl⟩ (noLimb3 _ _ _ _ _) (Nat.le_trans hsz hg5.out) (fun i y h => by
      rcases i with _ | i
      · obtain rfl := (Option.some.inj h).symm; exact n45
      · simp at h) (hv3.out.set3 bl4 (noLimb3 _ _ _ _ _))
    have HE := Lib.hid he2
    clear he0 he1 he2 bl4 bl5 hb4 hb5 hv1 hv3 hox HK H1 H2 hsz
    go_upto_region 4 with fail
    clear q40 q41 q42 q50 q51 q52 f40 f41 f42 f50 f51 f52 n45 m45 hg4 hg5
    generalize (((((wx.setCell _ _).setCell _ _).setCell _ _).setCell _ _).setCell _ _).setCell _ _ = wv at *
    by_cases hy0 : y.z = 0
    · have HY0 : Hid (y.z.sign = 0) := by show _ = _; rw [hy0]; rfl
      clear hy0
      obtain ⟨j0, j1, j2, -, -, -⟩ := DB.cells HE 0 rfl
      go_wp2_with fail
      (with_reducible refine (signV_d 0 (DB.dv HE 0 rfl) HY0.out).mono ?_)
      rintro e w5 ⟨rfl, ho⟩
      replace HE := Lib.hid (HE.out.step ho)
      clear ho j0 j1 j2
      go_wp2_with fail
      go_ret
      exact ⟨rfl, HE.out.only⟩
    · obtain ⟨q, hq, hq0⟩ := sign_ne hy0
      have HQ := Lib.hid hq
      have HYD : Hid (decide (y.z ≠ 0) = true) := decide_eq_true hy0
      have QD1 : Hid (cmpQ d.q x.q = 0) := cmpQ_eq (by rw [← HD.out, ← HC.out]; exact quo_exact hP1 HSX.out hy0)
      have QD2 : Hid (cmpQ e'.q x.q = 0) := cmpQ_eq (by rw [← HE'.out, ← HC.out]; exact quo_exact hP1 HSX.out hy0)
      clear hq hy0
      obtain ⟨j0, j1, j2, -, -, -⟩ := DB.cells HE 0 rfl
      go_wp2_with fail
      (with_reducible refine (signV_d q (DB.dv HE 0 rfl) HQ.out).mono ?_)
      rintro e w4 ⟨rfl, ho⟩
      replace HE := Lib.hid (HE.out.step ho)
      clear ho j0 j1 j2
      obtain ⟨i0, i1, i2, -, -, -⟩ := DB.cells HE 1 rfl
      obtain ⟨j0, j1, j2, -, -, -⟩ := DB.cells HE 0 rfl
      go_wp2_with fail
      (with_reducible refine (mulV_d c HC.out (DB.dv HE 1 rfl) (DB.dv HE 0 rfl) BX BY (by omega) (Lib.hid (hT.out.keep HE.out.only))).mono ?_)
      rintro e w5 ⟨s5, A5, k5, c5, rfl, -, -, hv, ho⟩
      replace HE := Lib.hid ((HE.out.step ho).new hv)
      clear hv ho
      clear i0 i1 i2 j0 j1 j2
      obtain ⟨i0, i1, i2, -, -, -⟩ := DB.cells HE 1 rfl
      obtain ⟨j0, j1, j2, -, -, -⟩ := DB.cells HE 0 rfl
      go_wp2_with fail
      (with_reducible refine (quoV_d p (-1) d true HD.out HYD.out (DB.dv HE 0 rfl) (DB.dv HE 1 rfl) BC BYC (by omega) (Lib.hid (hT.out.keep HE.out.only))).mono ?_)
      rintro e w5 ⟨s5, A5, k5, c5, rfl, -, -, hv, ho⟩
      replace HE := Lib.hid ((HE.out.step ho).new hv)
      clear hv ho
      clear i0 i1 i2 j0 j1 j2
      obtain ⟨i0, i1, i2, -, -, -⟩ := DB.cells HE 2 rfl
      obtain ⟨j0, j1, j2, -, -, -⟩ := DB.cells HE 1 rfl
      go_wp2_with fail
      (with_reducible refine (quoV_d p 1 e' true HE'.out HYD.out (DB.dv HE 1 rfl) (DB.dv HE 2 rfl) BC BYC (by omega) (Lib.hid (hT.out.keep HE.out.only))).mono ?_)
      rintro e w5 ⟨s5, A5, k5, c5, rfl, -, -, hv, ho⟩
      replace HE := Lib.hid ((HE.out.step ho).new hv)
      clear hv ho
      clear i0 i1 i2 j0 j1 j2
      obtain ⟨i0, i1, i2, -, -, -⟩ := DB.cells HE 4 rfl
      go_wp2_with fail
      (with_reducible refine (mul_d (DB.dv HE 4 rfl) (DB.dv HE 4 rfl) BX BX (by omega) (Lib.hid (hT.out.keep HE.out.only))).mono ?_)
      rintro e w6 ⟨s6, A6, k6, c6, rfl, -, -, hv, ho⟩
      replace HE := Lib.hid (HE.out.step ho)
      have HV6 := Lib.hid hv
      clear hv ho i0 i1 i2
      go_wp2_with fail
      (with_reducible refine (sqrtV_d p (-1) s true HS.out HOK.out (DV.of HV6) BQ (by omega) (Lib.hid (hT.out.keep HE.out.only))).mono ?_)
      rintro e w5 ⟨s5, A5, k5, c5, rfl, -, -, hv, ho⟩
      replace HE := Lib.hid ((HE.out.step ho).new hv)
      clear hv ho
      clear HV6
      obtain ⟨i0, i1, i2, -, -, -⟩ := DB.cells HE 5 rfl
      go_wp2_with fail
      (with_reducible refine (mul_d (DB.dv HE 5 rfl) (DB.dv HE 5 rfl) BX BX (by omega) (Lib.hid (hT.out.keep HE.out.only))).mono ?_)
      rintro e w6 ⟨s6, A6, k6, c6, rfl, -, -, hv, ho⟩
      replace HE := Lib.hid (HE.out.step ho)
      have HV6 := Lib.hid hv
      clear hv ho i0 i1 i2
      go_wp2_with fail
      (with_reducible refine (sqrtV_d p 1 t true HT'.out HOK.out (DV.of HV6) BQ (by omega) (Lib.hid (hT.out.keep HE.out.only))).mono ?_)
      rintro e w5 ⟨s5, A5, k5, c5, rfl, -, -, hv, ho⟩
      replace HE := Lib.hid ((HE.out.step ho).new hv)
      clear hv ho
      clear HV6
      go_upto_region 11 with fail
      apply wp_region_typed2 (by kernel_rfl) [isV _, isV _, isD r1, isV _, isV _, isV _, isV _, isV _, isV _, isD r2, isV _, isV _, isV _, isV _, isV _, isV _, isV _, isV _, isV _, isV _, isV _, isV _, isV _, isV _, isV _, isV _, isV _, isV _, isV _, isV _, isV _, isV _, isV _, isV _, isV _, isV _, isV _, isV _, isV _, isV _, isV _, isV _, isV _, isV _, isV _, isV _, isV _, isD (dMul s s), isV _, isV _, isD (dMul x x), isV _, isV _, isV _, isV _, isV _, isV _, isV _, isV _, isV _] [[], [], [0, 1], [], [2, 3], [4], [5], [6], [6], [6, 7, 8], [6], [6, 9, 10], [6, 11], [6, 12], [13], [14], [14, 15], [16], [17], [17], [17, 18, 19], [17, 20], [17, 21], [22], [23], [23, 24], [25], [26], [26], [26, 27, 28], [26, 29], [26, 30], [31], [32], [32, 33], [34], [35], [35, 36], [37], [38], [38], [38, 39, 40], [38, 41], [38, 42], [43], [44], [44], [44, 45, 46], [44], [44], [44, 48, 49], [44, 47, 50], [44, 51], [44, 52], [53], [54], [54, 55], [54, 56], [54, 57], [58]] (by kernel_rfl) (by kernel_rfl)
      case ho =>
        refine owes2_cons (fun wx hox => ?_) ?_
        · skip
          have he := Lib.hid (HE.out.step hox)
          have htx := Lib.hid (hT.out.keep he.out.only)
          obtain ⟨i0, i1, i2, -, -, -⟩ := DB.cells he 6 rfl
          obtain ⟨j0, j1, j2, -, -, -⟩ := DB.cells he 3 rfl
          obtain ⟨k0, k1, k2, -, -, -⟩ := DB.cells he 2 rfl
          obtain ⟨l0, l1, l2, -, -, -⟩ := DB.cells he 1 rfl
          obtain ⟨m0, m1, m2, -, -, -⟩ := DB.cells he 0 rfl
          have ivx := DB.iv he 6 rfl
          have ivd := DB.iv he 3 rfl
          have ive := DB.iv he 2 rfl
          have ivs := DB.iv he 1 rfl
          have ivt := DB.iv he 0 rfl
          clear he
          refine withs_plain rfl ?_
          simp only [withs, List.getElem?_cons_zero, List.getElem?_cons_succ, Option.bind, Option.getD]
          repeat (first | (with_reducible refine all_isV ?_) | (with_reducible refine all_isWC ?_; intro sx Ax kx cx hvx hwx) | (with_reducible refine all_isNR ?_; intro Ax kx cx hvx) | (with_reducible refine all_isNV ?_; intro Ax kx cx hvx) | (with_reducible refine all_isDV ?_; intro sx Ax kx cx hvx) | (with_reducible refine all_isWV ?_; intro sx Ax kx cx hvx) | (with_reducible refine all_isD ?_; intro sx Ax kx cx hvx hwx) | (with_reducible refine all_isRow ?_; intro gx' hbx) | (with_reducible refine all_isPtr ?_; intro gp' hbp hgp))
          go_simp
          exact ⟨Only.refl _ _, isV.self _ _⟩
        refine owes2_cons (fun wx hox => ?_) ?_
        · skip
          skip
          refine withs_plain rfl ?_
          simp only [withs, List.getElem?_cons_zero, List.getElem?_cons_succ, Option.bind, Option.getD]
          repeat (first | (with_reducible refine all_isV ?_) | (with_reducible refine all_isWC ?_; intro sx Ax kx cx hvx hwx) | (with_reducible refine all_isNR ?_; intro Ax kx cx hvx) | (with_reducible refine all_isNV ?_; intro Ax kx cx hvx) | (with_reducible refine all_isDV ?_; intro sx Ax kx cx hvx) | (with_reducible refine all_isWV ?_; intro sx Ax kx cx hvx) | (with_reducible refine all_isD ?_; intro sx Ax kx cx hvx hwx) | (with_reducible refine all_isRow ?_; intro gx' hbx) | (with_reducible refine all_isPtr ?_; intro gp' hbp hgp))
          go_simp
          exact ⟨Only.refl _ _, isV.self _ _⟩
        refine owes2_cons (fun wx hox => ?_) ?_
        · skip
          have he := Lib.hid (HE.out.step hox)
          have htx := Lib.hid (hT.out.keep he.out.only)
          obtain ⟨i0, i1, i2, -, -, -⟩ := DB.cells he 6 rfl
          obtain ⟨j0, j1, j2, -, -, -⟩ := DB.cells he 3 rfl
          obtain ⟨k0, k1, k2, -, -, -⟩ := DB.cells he 2 rfl
          obtain ⟨l0, l1, l2, -, -, -⟩ := DB.cells he 1 rfl
          obtain ⟨m0, m1, m2, -, -, -⟩ := DB.cells he 0 rfl
          have ivx := DB.iv he 6 rfl
          have ivd := DB.iv he 3 rfl
          have ive := DB.iv he 2 rfl
          have ivs := DB.iv he 1 rfl
          have ivt := DB.iv he 0 rfl
          clear he
          refine withs_plain rfl ?_
          simp only [withs, List.getElem?_cons_zero, List.getElem?_cons_succ, Option.bind, Option.getD]
          repeat (first | (with_reducible refine all_isV ?_) | (with_reducible refine all_isWC ?_; intro sx Ax kx cx hvx hwx) | (with_reducible refine all_isNR ?_; intro Ax kx cx hvx) | (with_reducible refine all_isNV ?_; intro Ax kx cx hvx) | (with_reducible refine all_isDV ?_; intro sx Ax kx cx hvx) | (with_reducible refine all_isWV ?_; intro sx Ax kx cx hvx) | (with_reducible refine all_isD ?_; intro sx Ax kx cx hvx hwx) | (with_reducible refine all_isRow ?_; intro gx' hbx) | (with_reducible refine all_isPtr ?_; intro gp' hbp hgp))
          go_simp
          (with_reducible exact grow_d (roundV_d p (-1) r1 HR1.out (DV.of (by assumption)) BX (by omega) htx))
        refine owes2_cons (fun wx hox => ?_) ?_
        · skip
          have he := Lib.hid (HE.out.step hox)
          have htx := Lib.hid (hT.out.keep he.out.only)
          obtain ⟨i0, i1, i2, -, -, -⟩ := DB.cells he 6 rfl
          obtain ⟨j0, j1, j2, -, -, -⟩ := DB.cells he 3 rfl
          obtain ⟨k0, k1, k2, -, -, -⟩ := DB.cells he 2 rfl
          obtain ⟨l0, l1, l2, -, -, -⟩ := DB.cells he 1 rfl
          obtain ⟨m0, m1, m2, -, -, -⟩ := DB.cells he 0 rfl
          have ivx := DB.iv he 6 rfl
          have ivd := DB.iv he 3 rfl
          have ive := DB.iv he 2 rfl
          have ivs := DB.iv he 1 rfl
          have ivt := DB.iv he 0 rfl
          clear he
          refine withs_plain rfl ?_
          simp only [withs, List.getElem?_cons_zero, List.getElem?_cons_succ, Option.bind, Option.getD]
          repeat (first | (with_reducible refine all_isV ?_) | (with_reducible refine all_isWC ?_; intro sx Ax kx cx hvx hwx) | (with_reducible refine all_isNR ?_; intro Ax kx cx hvx) | (with_reducible refine all_isNV ?_; intro Ax kx cx hvx) | (with_reducible refine all_isDV ?_; intro sx Ax kx cx hvx) | (with_reducible refine all_isWV ?_; intro sx Ax kx cx hvx) | (with_reducible refine all_isD ?_; intro sx Ax kx cx hvx hwx) | (with_reducible refine all_isRow ?_; intro gx' hbx) | (with_reducible refine all_isPtr ?_; intro gp' hbp hgp))
          go_simp
          exact ⟨Only.refl _ _, isV.self _ _⟩
        refine owes2_cons (fun wx hox => ?_) ?_
        · skip
          have he := Lib.hid (HE.out.step hox)
          have htx := Lib.hid (hT.out.keep he.out.only)
          obtain ⟨i0, i1, i2, -, -, -⟩ := DB.cells he 6 rfl
          obtain ⟨j0, j1, j2, -, -, -⟩ := DB.cells he 3 rfl
          obtain ⟨k0, k1, k2, -, -, -⟩ := DB.cells he 2 rfl
          obtain ⟨l0, l1, l2, -, -, -⟩ := DB.cells he 1 rfl
          obtain ⟨m0, m1, m2, -, -, -⟩ := DB.cells he 0 rfl
          have ivx := DB.iv he 6 rfl
          have ivd := DB.iv he 3 rfl
          have ive := DB.iv he 2 rfl
          have ivs := DB.iv he 1 rfl
          have ivt := DB.iv he 0 rfl
          clear he
          refine withs_plain rfl ?_
          simp only [withs, List.getElem?_cons_zero, List.getElem?_cons_succ, Option.bind, Option.getD]
          repeat (first | (with_reducible refine all_isV ?_) | (with_reducible refine all_isWC ?_; intro sx Ax kx cx hvx hwx) | (with_reducible refine all_isNR ?_; intro Ax kx cx hvx) | (with_reducible refine all_isNV ?_; intro Ax kx cx hvx) | (with_reducible refine all_isDV ?_; intro sx Ax kx cx hvx) | (with_reducible refine all_isWV ?_; intro sx Ax kx cx hvx) | (with_reducible refine all_isD ?_; intro sx Ax kx cx hvx hwx) | (with_reducible refine all_isRow ?_; intro gx' hbx) | (with_reducible refine all_isPtr ?_; intro gp' hbp hgp))
          go_simp
          (with_reducible exact grow_of (cmpV_d (x := r1) (y := x) 0 (DV.of (by assumption)) (DV.of (by assumption)) BR1 BXR (by omega) QR1.out))
        refine owes2_cons (fun wx hox => ?_) ?_
        · skip
          skip
          refine withs_plain rfl ?_
          simp only [withs, List.getElem?_cons_zero, List.getElem?_cons_succ, Option.bind, Option.getD]
          repeat (first | (with_reducible refine all_isV ?_) | (with_reducible refine all_isWC ?_; intro sx Ax kx cx hvx hwx) | (with_reducible refine all_isNR ?_; intro Ax kx cx hvx) | (with_reducible refine all_isNV ?_; intro Ax kx cx hvx) | (with_reducible refine all_isDV ?_; intro sx Ax kx cx hvx) | (with_reducible refine all_isWV ?_; intro sx Ax kx cx hvx) | (with_reducible refine all_isD ?_; intro sx Ax kx cx hvx hwx) | (with_reducible refine all_isRow ?_; intro gx' hbx) | (with_reducible refine all_isPtr ?_; intro gp' hbp hgp))
          go_simp
          exact ⟨Only.refl _ _, isV.self _ _⟩
        refine owes2_cons (fun wx hox => ?_) ?_
        · skip
          skip
          refine withs_plain rfl ?_
          simp only [withs, List.getElem?_cons_zero, List.getElem?_cons_succ, Option.bind, Option.getD]
          repeat (first | (with_reducible refine all_isV ?_) | (with_reducible refine all_isWC ?_; intro sx Ax kx cx hvx hwx) | (with_reducible refine all_isNR ?_; intro Ax kx cx hvx) | (with_reducible refine all_isNV ?_; intro Ax kx cx hvx) | (with_reducible refine all_isDV ?_; intro sx Ax kx cx hvx) | (with_reducible refine all_isWV ?_; intro sx Ax kx cx hvx) | (with_reducible refine all_isD ?_; intro sx Ax kx cx hvx hwx) | (with_reducible refine all_isRow ?_; intro gx' hbx) | (with_reducible refine all_isPtr ?_; intro gp' hbp hgp))
          go_simp
          exact ⟨Only.refl _ _, isV.self _ _⟩
        refine owes2_cons (fun wx hox => ?_) ?_
        · skip
          have he := Lib.hid (HE.out.step hox)
          have htx := Lib.hid (hT.out.keep he.out.only)
          obtain ⟨i0, i1, i2, -, -, -⟩ := DB.cells he 6 rfl
          obtain ⟨j0, j1, j2, -, -, -⟩ := DB.cells he 3 rfl
          obtain ⟨k0, k1, k2, -, -, -⟩ := DB.cells he 2 rfl
          obtain ⟨l0, l1, l2, -, -, -⟩ := DB.cells he 1 rfl
          obtain ⟨m0, m1, m2, -, -, -⟩ := DB.cells he 0 rfl
          have ivx := DB.iv he 6 rfl
          have ivd := DB.iv he 3 rfl
          have ive := DB.iv he 2 rfl
          have ivs := DB.iv he 1 rfl
          have ivt := DB.iv he 0 rfl
          clear he
          refine withs_guard rfl rfl ?_
          simp only [withs, List.getElem?_cons_zero, List.getElem?_cons_succ, Option.bind, Option.getD]
          repeat (first | (with_reducible refine all_isV ?_) | (with_reducible refine all_isWC ?_; intro sx Ax kx cx hvx hwx) | (with_reducible refine all_isNR ?_; intro Ax kx cx hvx) | (with_reducible refine all_isNV ?_; intro Ax kx cx hvx) | (with_reducible refine all_isDV ?_; intro sx Ax kx cx hvx) | (with_reducible refine all_isWV ?_; intro sx Ax kx cx hvx) | (with_reducible refine all_isD ?_; intro sx Ax kx cx hvx hwx) | (with_reducible refine all_isRow ?_; intro gx' hbx) | (with_reducible refine all_isPtr ?_; intro gp' hbp hgp))
          refine ⟨by kernel_rfl, ?_⟩
          go_simp
          exact ⟨Only.refl _ _, isV.self _ _⟩
        refine owes2_cons (fun wx hox => ?_) ?_
        · skip
          skip
          refine withs_guard rfl rfl ?_
          simp only [withs, List.getElem?_cons_zero, List.getElem?_cons_succ, Option.bind, Option.getD]
          repeat (first | (with_reducible refine all_isV ?_) | (with_reducible refine all_isWC ?_; intro sx Ax kx cx hvx hwx) | (with_reducible refine all_isNR ?_; intro Ax kx cx hvx) | (with_reducible refine all_isNV ?_; intro Ax kx cx hvx) | (with_reducible refine all_isDV ?_; intro sx Ax kx cx hvx) | (with_reducible refine all_isWV ?_; intro sx Ax kx cx hvx) | (with_reducible refine all_isD ?_; intro sx Ax kx cx hvx hwx) | (with_reducible refine all_isRow ?_; intro gx' hbx) | (with_reducible refine all_isPtr ?_; intro gp' hbp hgp))
          refine ⟨by kernel_rfl, ?_⟩
          go_simp
          exact ⟨Only.refl _ _, isV.self _ _⟩
        refine owes2_cons (fun wx hox => ?_) ?_
        · skip
          have he := Lib.hid (HE.out.step hox)
          have htx := Lib.hid (hT.out.keep he.out.only)
          obtain ⟨i0, i1, i2, -, -, -⟩ := DB.cells he 6 rfl
          obtain ⟨j0, j1, j2, -, -, -⟩ := DB.cells he 3 rfl
          obtain ⟨k0, k1, k2, -, -, -⟩ := DB.cells he 2 rfl
          obtain ⟨l0, l1, l2, -, -, -⟩ := DB.cells he 1 rfl
          obtain ⟨m0, m1, m2, -, -, -⟩ := DB.cells he 0 rfl
          have ivx := DB.iv he 6 rfl
          have ivd := DB.iv he 3 rfl
          have ive := DB.iv he 2 rfl
          have ivs := DB.iv he 1 rfl
          have ivt := DB.iv he 0 rfl
          clear he
          refine withs_guard rfl rfl ?_
          simp only [withs, List.getElem?_cons_zero, List.getElem?_cons_succ, Option.bind, Option.getD]
          repeat (first | (with_reducible refine all_isV ?_) | (with_reducible refine all_isWC ?_; intro sx Ax kx cx hvx hwx) | (with_reducible refine all_isNR ?_; intro Ax kx cx hvx) | (with_reducible refine all_isNV ?_; intro Ax kx cx hvx) | (with_reducible refine all_isDV ?_; intro sx Ax kx cx hvx) | (with_reducible refine all_isWV ?_; intro sx Ax kx cx hvx) | (with_reducible refine all_isD ?_; intro sx Ax kx cx hvx hwx) | (with_reducible refine all_isRow ?_; intro gx' hbx) | (with_reducible refine all_isPtr ?_; intro gp' hbp hgp))
          refine ⟨by kernel_rfl, ?_⟩
          go_simp
          (with_reducible exact grow_d (roundV_d p 1 r2 HR2.out (DV.of (by assumption)) BX (by omega) htx))
        refine owes2_cons (fun wx hox => ?_) ?_
        · skip
          have he := Lib.hid (HE.out.step hox)
          have htx := Lib.hid (hT.out.keep he.out.only)
          obtain ⟨i0, i1, i2, -, -, -⟩ := DB.cells he 6 rfl
          obtain ⟨j0, j1, j2, -, -, -⟩ := DB.cells he 3 rfl
          obtain ⟨k0, k1, k2, -, -, -⟩ := DB.cells he 2 rfl
          obtain ⟨l0, l1, l2, -, -, -⟩ := DB.cells he 1 rfl
          obtain ⟨m0, m1, m2, -, -, -⟩ := DB.cells he 0 rfl
          have ivx := DB.iv he 6 rfl
          have ivd := DB.iv he 3 rfl
          have ive := DB.iv he 2 rfl
          have ivs := DB.iv he 1 rfl
          have ivt := DB.iv he 0 rfl
          clear he
          refine withs_guard rfl rfl ?_
          simp only [withs, List.getElem?_cons_zero, List.getElem?_cons_succ, Option.bind, Option.getD]
          repeat (first | (with_reducible refine all_isV ?_) | (with_reducible refine all_isWC ?_; intro sx Ax kx cx hvx hwx) | (with_reducible refine all_isNR ?_; intro Ax kx cx hvx) | (with_reducible refine all_isNV ?_; intro Ax kx cx hvx) | (with_reducible refine all_isDV ?_; intro sx Ax kx cx hvx) | (with_reducible refine all_isWV ?_; intro sx Ax kx cx hvx) | (with_reducible refine all_isD ?_; intro sx Ax kx cx hvx hwx) | (with_reducible refine all_isRow ?_; intro gx' hbx) | (with_reducible refine all_isPtr ?_; intro gp' hbp hgp))
          refine ⟨by kernel_rfl, ?_⟩
          go_simp
          exact ⟨Only.refl _ _, isV.self _ _⟩
        refine owes2_cons (fun wx hox => ?_) ?_
        · skip
          have he := Lib.hid (HE.out.step hox)
          have htx := Lib.hid (hT.out.keep he.out.only)
          obtain ⟨i0, i1, i2, -, -, -⟩ := DB.cells he 6 rfl
          obtain ⟨j0, j1, j2, -, -, -⟩ := DB.cells he 3 rfl
          obtain ⟨k0, k1, k2, -, -, -⟩ := DB.cells he 2 rfl
          obtain ⟨l0, l1, l2, -, -, -⟩ := DB.cells he 1 rfl
          obtain ⟨m0, m1, m2, -, -, -⟩ := DB.cells he 0 rfl
          have ivx := DB.iv he 6 rfl
          have ivd := DB.iv he 3 rfl
          have ive := DB.iv he 2 rfl
          have ivs := DB.iv he 1 rfl
          have ivt := DB.iv he 0 rfl
          clear he
          refine withs_guard rfl rfl ?_
          simp only [withs, List.getElem?_cons_zero, List.getElem?_cons_succ, Option.bind, Option.getD]
          repeat (first | (with_reducible refine all_isV ?_) | (with_reducible refine all_isWC ?_; intro sx Ax kx cx hvx hwx) | (with_reducible refine all_isNR ?_; intro Ax kx cx hvx) | (with_reducible refine all_isNV ?_; intro Ax kx cx hvx) | (with_reducible refine all_isDV ?_; intro sx Ax kx cx hvx) | (with_reducible refine all_isWV ?_; intro sx Ax kx cx hvx) | (with_reducible refine all_isD ?_; intro sx Ax kx cx hvx hwx) | (with_reducible refine all_isRow ?_; intro gx' hbx) | (with_reducible refine all_isPtr ?_; intro gp' hbp hgp))
          refine ⟨by kernel_rfl, ?_⟩
          go_simp
          (with_reducible exact grow_of (cmpV_d (x := r2) (y := x) 0 (DV.of (by assumption)) (DV.of (by assumption)) BR2 BXR (by omega) QR2.out))
        refine owes2_cons (fun wx hox => ?_) ?_
        · skip
          skip
          refine withs_guard rfl rfl ?_
          simp only [withs, List.getElem?_cons_zero, List.getElem?_cons_succ, Option.bind, Option.getD]
          repeat (first | (with_reducible refine all_isV ?_) | (with_reducible refine all_isWC ?_; intro sx Ax kx cx hvx hwx) | (with_reducible refine all_isNR ?_; intro Ax kx cx hvx) | (with_reducible refine all_isNV ?_; intro Ax kx cx hvx) | (with_reducible refine all_isDV ?_; intro sx Ax kx cx hvx) | (with_reducible refine all_isWV ?_; intro sx Ax kx cx hvx) | (with_reducible refine all_isD ?_; intro sx Ax kx cx hvx hwx) | (with_reducible refine all_isRow ?_; intro gx' hbx) | (with_reducible refine all_isPtr ?_; intro gp' hbp hgp))
          refine ⟨by kernel_rfl, ?_⟩
          go_simp
          exact ⟨Only.refl _ _, isV.self _ _⟩
        refine owes2_cons (fun wx hox => ?_) ?_
        · skip
          skip
          refine withs_plain rfl ?_
          simp only [withs, List.getElem?_cons_zero, List.getElem?_cons_succ, Option.bind, Option.getD]
          repeat (first | (with_reducible refine all_isV ?_) | (with_reducible refine all_isWC ?_; intro sx Ax kx cx hvx hwx) | (with_reducible refine all_isNR ?_; intro Ax kx cx hvx) | (with_reducible refine all_isNV ?_; intro Ax kx cx hvx) | (with_reducible refine all_isDV ?_; intro sx Ax kx cx hvx) | (with_reducible refine all_isWV ?_; intro sx Ax kx cx hvx) | (with_reducible refine all_isD ?_; intro sx Ax kx cx hvx hwx) | (with_reducible refine all_isRow ?_; intro gx' hbx) | (with_reducible refine all_isPtr ?_; intro gp' hbp hgp))
          go_simp
          exact ⟨Only.refl _ _, isV.self _ _⟩
        refine owes2_cons (fun wx hox => ?_) ?_
        · skip
          skip
          refine withs_plain rfl ?_
          simp only [withs, List.getElem?_cons_zero, List.getElem?_cons_succ, Option.bind, Option.getD]
          repeat (first | (with_reducible refine all_isV ?_) | (with_reducible refine all_isWC ?_; intro sx Ax kx cx hvx hwx) | (with_reducible refine all_isNR ?_; intro Ax kx cx hvx) | (with_reducible refine all_isNV ?_; intro Ax kx cx hvx) | (with_reducible refine all_isDV ?_; intro sx Ax kx cx hvx) | (with_reducible refine all_isWV ?_; intro sx Ax kx cx hvx) | (with_reducible refine all_isD ?_; intro sx Ax kx cx hvx hwx) | (with_reducible refine all_isRow ?_; intro gx' hbx) | (with_reducible refine all_isPtr ?_; intro gp' hbp hgp))
          go_simp
          exact ⟨Only.refl _ _, isV.self _ _⟩
        refine owes2_cons (fun wx hox => ?_) ?_
        · skip
          skip
          refine withs_guard rfl rfl ?_
          simp only [withs, List.getElem?_cons_zero, List.getElem?_cons_succ, Option.bind, Option.getD]
          repeat (first | (with_reducible refine all_isV ?_) | (with_reducible refine all_isWC ?_; intro sx Ax kx cx hvx hwx) | (with_reducible refine all_isNR ?_; intro Ax kx cx hvx) | (with_reducible refine all_isNV ?_; intro Ax kx cx hvx) | (with_reducible refine all_isDV ?_; intro sx Ax kx cx hvx) | (with_reducible refine all_isWV ?_; intro sx Ax kx cx hvx) | (with_reducible refine all_isD ?_; intro sx Ax kx cx hvx hwx) | (with_reducible refine all_isRow ?_; intro gx' hbx) | (with_reducible refine all_isPtr ?_; intro gp' hbp hgp))
          refine ⟨by kernel_rfl, ?_⟩
          go_simp
          exact ⟨Only.refl _ _, isV.self _ _⟩
        refine owes2_cons (fun wx hox => ?_) ?_
        · skip
          skip
          refine withs_plain rfl ?_
          simp only [withs, List.getElem?_cons_zero, List.getElem?_cons_succ, Option.bind, Option.getD]
          repeat (first | (with_reducible refine all_isV ?_) | (with_reducible refine all_isWC ?_; intro sx Ax kx cx hvx hwx) | (with_reducible refine all_isNR ?_; intro Ax kx cx hvx) | (with_reducible refine all_isNV ?_; intro Ax kx cx hvx) | (with_reducible refine all_isDV ?_; intro sx Ax kx cx hvx) | (with_reducible refine all_isWV ?_; intro sx Ax kx cx hvx) | (with_reducible refine all_isD ?_; intro sx Ax kx cx hvx hwx) | (with_reducible refine all_isRow ?_; intro gx' hbx) | (with_reducible refine all_isPtr ?_; intro gp' hbp hgp))
          go_simp
          exact ⟨Only.refl _ _, isV.self _ _⟩
        refine owes2_cons (fun wx hox => ?_) ?_
        · skip
          skip
          refine withs_plain rfl ?_
          simp only [withs, List.getElem?_cons_zero, List.getElem?_cons_succ, Option.bind, Option.getD]
          repeat (first | (with_reducible refine all_isV ?_) | (with_reducible refine all_isWC ?_; intro sx Ax kx cx hvx hwx) | (with_reducible refine all_isNR ?_; intro Ax kx cx hvx) | (with_reducible refine all_isNV ?_; intro Ax kx cx hvx) | (with_reducible refine all_isDV ?_; intro sx Ax kx cx hvx) | (with_reducible refine all_isWV ?_; intro sx Ax kx cx hvx) | (with_reducible refine all_isD ?_; intro sx Ax kx cx hvx hwx) | (with_reducible refine all_isRow ?_; intro gx' hbx) | (with_reducible refine all_isPtr ?_; intro gp' hbp hgp))
          go_simp
          exact ⟨Only.refl _ _, isV.self _ _⟩
        refine owes2_cons (fun wx hox => ?_) ?_
        · skip
          have he := Lib.hid (HE.out.step hox)
          have htx := Lib.hid (hT.out.keep he.out.only)
          obtain ⟨i0, i1, i2, -, -, -⟩ := DB.cells he 6 rfl
          obtain ⟨j0, j1, j2, -, -, -⟩ := DB.cells he 3 rfl
          obtain ⟨k0, k1, k2, -, -, -⟩ := DB.cells he 2 rfl
          obtain ⟨l0, l1, l2, -, -, -⟩ := DB.cells he 1 rfl
          obtain ⟨m0, m1, m2, -, -, -⟩ := DB.cells he 0 rfl
          have ivx := DB.iv he 6 rfl
          have ivd := DB.iv he 3 rfl
          have ive := DB.iv he 2 rfl
          have ivs := DB.iv he 1 rfl
          have ivt := DB.iv he 0 rfl
          clear he
          refine withs_guard rfl rfl ?_
          simp only [withs, List.getElem?_cons_zero, List.getElem?_cons_succ, Option.bind, Option.getD]
          repeat (first | (with_reducible refine all_isV ?_) | (with_reducible refine all_isWC ?_; intro sx Ax kx cx hvx hwx) | (with_reducible refine all_isNR ?_; intro Ax kx cx hvx) | (with_reducible refine all_isNV ?_; intro Ax kx cx hvx) | (with_reducible refine all_isDV ?_; intro sx Ax kx cx hvx) | (with_reducible refine all_isWV ?_; intro sx Ax kx cx hvx) | (with_reducible refine all_isD ?_; intro sx Ax kx cx hvx hwx) | (with_reducible refine all_isRow ?_; intro gx' hbx) | (with_reducible refine all_isPtr ?_; intro gp' hbp hgp))
          refine ⟨by kernel_rfl, ?_⟩
          go_simp
          exact ⟨Only.refl _ _, isV.self _ _⟩
        refine owes2_cons (fun wx hox => ?_) ?_
        · skip
          have he := Lib.hid (HE.out.step hox)
          have htx := Lib.hid (hT.out.keep he.out.only)
          obtain ⟨i0, i1, i2, -, -, -⟩ := DB.cells he 6 rfl
          obtain ⟨j0, j1, j2, -, -, -⟩ := DB.cells he 3 rfl
          obtain ⟨k0, k1, k2, -, -, -⟩ := DB.cells he 2 rfl
          obtain ⟨l0, l1, l2, -, -, -⟩ := DB.cells he 1 rfl
          obtain ⟨m0, m1, m2, -, -, -⟩ := DB.cells he 0 rfl
          have ivx := DB.iv he 6 rfl
          have ivd := DB.iv he 3 rfl
          have ive := DB.iv he 2 rfl
          have ivs := DB.iv he 1 rfl
          have ivt := DB.iv he 0 rfl
          clear he
          refine withs_guard rfl rfl ?_
          simp only [withs, List.getElem?_cons_zero, List.getElem?_cons_succ, Option.bind, Option.getD]
          repeat (first | (with_reducible refine all_isV ?_) | (with_reducible refine all_isWC ?_; intro sx Ax kx cx hvx hwx) | (with_reducible refine all_isNR ?_; intro Ax kx cx hvx) | (with_reducible refine all_isNV ?_; intro Ax kx cx hvx) | (with_reducible refine all_isDV ?_; intro sx Ax kx cx hvx) | (with_reducible refine all_isWV ?_; intro sx Ax kx cx hvx) | (with_reducible refine all_isD ?_; intro sx Ax kx cx hvx hwx) | (with_reducible refine all_isRow ?_; intro gx' hbx) | (with_reducible refine all_isPtr ?_; intro gp' hbp hgp))
          refine ⟨by kernel_rfl, ?_⟩
          go_simp
          exact ⟨Only.refl _ _, isV.self _ _⟩
        refine owes2_cons (fun wx hox => ?_) ?_
        · skip
          have he := Lib.hid (HE.out.step hox)
          have htx := Lib.hid (hT.out.keep he.out.only)
          obtain ⟨i0, i1, i2, -, -, -⟩ := DB.cells he 6 rfl
          obtain ⟨j0, j1, j2, -, -, -⟩ := DB.cells he 3 rfl
          obtain ⟨k0, k1, k2, -, -, -⟩ := DB.cells he 2 rfl
          obtain ⟨l0, l1, l2, -, -, -⟩ := DB.cells he 1 rfl
          obtain ⟨m0, m1, m2, -, -, -⟩ := DB.cells he 0 rfl
          have ivx := DB.iv he 6 rfl
          have ivd := DB.iv he 3 rfl
          have ive := DB.iv he 2 rfl
          have ivs := DB.iv he 1 rfl
          have ivt := DB.iv he 0 rfl
          clear he
          refine withs_guard rfl rfl ?_
          simp only [withs, List.getElem?_cons_zero, List.getElem?_cons_succ, Option.bind, Option.getD]
          repeat (first | (with_reducible refine all_isV ?_) | (with_reducible refine all_isWC ?_; intro sx Ax kx cx hvx hwx) | (with_reducible refine all_isNR ?_; intro Ax kx cx hvx) | (with_reducible refine all_isNV ?_; intro Ax kx cx hvx) | (with_reducible refine all_isDV ?_; intro sx Ax kx cx hvx) | (with_reducible refine all_isWV ?_; intro sx Ax kx cx hvx) | (with_reducible refine all_isD ?_; intro sx Ax kx cx hvx hwx) | (with_reducible refine all_isRow ?_; intro gx' hbx) | (with_reducible refine all_isPtr ?_; intro gp' hbp hgp))
          refine ⟨by kernel_rfl, ?_⟩
          go_simp
          (with_reducible exact grow_of (cmpV_d (x := d) (y := x) 0 (DV.of (by assumption)) (DV.of (by assumption)) BD BXD (by omega) QD1.out))
        refine owes2_cons (fun wx hox => ?_) ?_
        · skip
          skip
          refine withs_guard rfl rfl ?_
          simp only [withs, List.getElem?_cons_zero, List.getElem?_cons_succ, Option.bind, Option.getD]
          repeat (first | (with_reducible refine all_isV ?_) | (with_reducible refine all_isWC ?_; intro sx Ax kx cx hvx hwx) | (with_reducible refine all_isNR ?_; intro Ax kx cx hvx) | (with_reducible refine all_isNV ?_; intro Ax kx cx hvx) | (with_reducible refine all_isDV ?_; intro sx Ax kx cx hvx) | (with_reducible refine all_isWV ?_; intro sx Ax kx cx hvx) | (with_reducible refine all_isD ?_; intro sx Ax kx cx hvx hwx) | (with_reducible refine all_isRow ?_; intro gx' hbx) | (with_reducible refine all_isPtr ?_; intro gp' hbp hgp))
          refine ⟨by kernel_rfl, ?_⟩
          go_simp
          exact ⟨Only.refl _ _, isV.self _ _⟩
        refine owes2_cons (fun wx hox => ?_) ?_
        · skip
          skip
          refine withs_plain rfl ?_
          simp only [withs, List.getElem?_cons_zero, List.getElem?_cons_succ, Option.bind, Option.getD]
          repeat (first | (with_reducible refine all_isV ?_) | (with_reducible refine all_isWC ?_; intro sx Ax kx cx hvx hwx) | (with_reducible refine all_isNR ?_; intro Ax kx cx hvx) | (with_reducible refine all_isNV ?_; intro Ax kx cx hvx) | (with_reducible refine all_isDV ?_; intro sx Ax kx cx hvx) | (with_reducible refine all_isWV ?_; intro sx Ax kx cx hvx) | (with_reducible refine all_isD ?_; intro sx Ax kx cx hvx hwx) | (with_reducible refine all_isRow ?_; intro gx' hbx) | (with_reducible refine all_isPtr ?_; intro gp' hbp hgp))
          go_simp
          exact ⟨Only.refl _ _, isV.self _ _⟩
        refine owes2_cons (fun wx hox => ?_) ?_
        · skip
          skip
          refine withs_plain rfl ?_
          simp only [withs, List.getElem?_cons_zero, List.getElem?_cons_succ, Option.bind, Option.getD]
          repeat (first | (with_reducible refine all_isV ?_) | (with_reducible refine all_isWC ?_; intro sx Ax kx cx hvx hwx) | (with_reducible refine all_isNR ?_; intro Ax kx cx hvx) | (with_reducible refine all_isNV ?_; intro Ax kx cx hvx) | (with_reducible refine all_isDV ?_; intro sx Ax kx cx hvx) | (with_reducible refine all_isWV ?_; intro sx Ax kx cx hvx) | (with_reducible refine all_isD ?_; intro sx Ax kx cx hvx hwx) | (with_reducible refine all_isRow ?_; intro gx' hbx) | (with_reducible refine all_isPtr ?_; intro gp' hbp hgp))
          go_simp
          exact ⟨Only.refl _ _, isV.self _ _⟩
        refine owes2_cons (fun wx hox => ?_) ?_
        · skip
          skip
          refine withs_guard rfl rfl ?_
          simp only [withs, List.getElem?_cons_zero, List.getElem?_cons_succ, Option.bind, Option.getD]
          repeat (first | (with_reducible refine all_isV ?_) | (with_reducible refine all_isWC ?_; intro sx Ax kx cx hvx hwx) | (with_reducible refine all_isNR ?_; intro Ax kx cx hvx) | (with_reducible refine all_isNV ?_; intro Ax kx cx hvx) | (with_reducible refine all_isDV ?_; intro sx Ax kx cx hvx) | (with_reducible refine all_isWV ?_; intro sx Ax kx cx hvx) | (with_reducible refine all_isD ?_; intro sx Ax kx cx hvx hwx) | (with_reducible refine all_isRow ?_; intro gx' hbx) | (with_reducible refine all_isPtr ?_; intro gp' hbp hgp))
          refine ⟨by kernel_rfl, ?_⟩
          go_simp
          exact ⟨Only.refl _ _, isV.self _ _⟩
        refine owes2_cons (fun wx hox => ?_) ?_
        · skip
          skip
          refine withs_plain rfl ?_
          simp only [withs, List.getElem?_cons_zero, List.getElem?_cons_succ, Option.bind, Option.getD]
          repeat (first | (with_reducible refine all_isV ?_) | (with_reducible refine all_isWC ?_; intro sx Ax kx cx hvx hwx) | (with_reducible refine all_isNR ?_; intro Ax kx cx hvx) | (with_reducible refine all_isNV ?_; intro Ax kx cx hvx) | (with_reducible refine all_isDV ?_; intro sx Ax kx cx hvx) | (with_reducible refine all_isWV ?_; intro sx Ax kx cx hvx) | (with_reducible refine all_isD ?_; intro sx Ax kx cx hvx hwx) | (with_reducible refine all_isRow ?_; intro gx' hbx) | (with_reducible refine all_isPtr ?_; intro gp' hbp hgp))
          go_simp
          exact ⟨Only.refl _ _, isV.self _ _⟩
        refine owes2_cons (fun wx hox => ?_) ?_
        · skip
          skip
          refine withs_plain rfl ?_
          simp only [withs, List.getElem?_cons_zero, List.getElem?_cons_succ, Option.bind, Option.getD]
          repeat (first | (with_reducible refine all_isV ?_) | (with_reducible refine all_isWC ?_; intro sx Ax kx cx hvx hwx) | (with_reducible refine all_isNR ?_; intro Ax kx cx hvx) | (with_reducible refine all_isNV ?_; intro Ax kx cx hvx) | (with_reducible refine all_isDV ?_; intro sx Ax kx cx hvx) | (with_reducible refine all_isWV ?_; intro sx Ax kx cx hvx) | (with_reducible refine all_isD ?_; intro sx Ax kx cx hvx hwx) | (with_reducible refine all_isRow ?_; intro gx' hbx) | (with_reducible refine all_isPtr ?_; intro gp' hbp hgp))
          go_simp
          exact ⟨Only.refl _ _, isV.self _ _⟩
        refine owes2_cons (fun wx hox => ?_) ?_
        · skip
          have he := Lib.hid (HE.out.step hox)
          have htx := Lib.hid (hT.out.keep he.out.only)
          obtain ⟨i0, i1, i2, -, -, -⟩ := DB.cells he 6 rfl
          obtain ⟨j0, j1, j2, -, -, -⟩ := DB.cells he 3 rfl
          obtain ⟨k0, k1, k2, -, -, -⟩ := DB.cells he 2 rfl
          obtain ⟨l0, l1, l2, -, -, -⟩ := DB.cells he 1 rfl
          obtain ⟨m0, m1, m2, -, -, -⟩ := DB.cells he 0 rfl
          have ivx := DB.iv he 6 rfl
          have ivd := DB.iv he 3 rfl
          have ive := DB.iv he 2 rfl
          have ivs := DB.iv he 1 rfl
          have ivt := DB.iv he 0 rfl
          clear he
          refine withs_guard rfl rfl ?_
          simp only [withs, List.getElem?_cons_zero, List.getElem?_cons_succ, Option.bind, Option.getD]
          repeat (first | (with_reducible refine all_isV ?_) | (with_reducible refine all_isWC ?_; intro sx Ax kx cx hvx hwx) | (with_reducible refine all_isNR ?_; intro Ax kx cx hvx) | (with_reducible refine all_isNV ?_; intro Ax kx cx hvx) | (with_reducible refine all_isDV ?_; intro sx Ax kx cx hvx) | (with_reducible refine all_isWV ?_; intro sx Ax kx cx hvx) | (with_reducible refine all_isD ?_; intro sx Ax kx cx hvx hwx) | (with_reducible refine all_isRow ?_; intro gx' hbx) | (with_reducible refine all_isPtr ?_; intro gp' hbp hgp))
          refine ⟨by kernel_rfl, ?_⟩
          go_simp
          exact ⟨Only.refl _ _, isV.self _ _⟩
        refine owes2_cons (fun wx hox => ?_) ?_
        · skip
          have he := Lib.hid (HE.out.step hox)
          have htx := Lib.hid (hT.out.keep he.out.only)
          obtain ⟨i0, i1, i2, -, -, -⟩ := DB.cells he 6 rfl
          obtain ⟨j0, j1, j2, -, -, -⟩ := DB.cells he 3 rfl
          obtain ⟨k0, k1, k2, -, -, -⟩ := DB.cells he 2 rfl
          obtain ⟨l0, l1, l2, -, -, -⟩ := DB.cells he 1 rfl
          obtain ⟨m0, m1, m2, -, -, -⟩ := DB.cells he 0 rfl
          have ivx := DB.iv he 6 rfl
          have ivd := DB.iv he 3 rfl
          have ive := DB.iv he 2 rfl
          have ivs := DB.iv he 1 rfl
          have ivt := DB.iv he 0 rfl
          clear he
          refine withs_guard rfl rfl ?_
          simp only [withs, List.getElem?_cons_zero, List.getElem?_cons_succ, Option.bind, Option.getD]
          repeat (first | (with_reducible refine all_isV ?_) | (with_reducible refine all_isWC ?_; intro sx Ax kx cx hvx hwx) | (with_reducible refine all_isNR ?_; intro Ax kx cx hvx) | (with_reducible refine all_isNV ?_; intro Ax kx cx hvx) | (with_reducible refine all_isDV ?_; intro sx Ax kx cx hvx) | (with_reducible refine all_isWV ?_; intro sx Ax kx cx hvx) | (with_reducible refine all_isD ?_; intro sx Ax kx cx hvx hwx) | (with_reducible refine all_isRow ?_; intro gx' hbx) | (with_reducible refine all_isPtr ?_; intro gp' hbp hgp))
          refine ⟨by kernel_rfl, ?_⟩
          go_simp
          exact ⟨Only.refl _ _, isV.self _ _⟩
        refine owes2_cons (fun wx hox => ?_) ?_
        · skip
          have he := Lib.hid (HE.out.step hox)
          have htx := Lib.hid (hT.out.keep he.out.only)
          obtain ⟨i0, i1, i2, -, -, -⟩ := DB.cells he 6 rfl
          obtain ⟨j0, j1, j2, -, -, -⟩ := DB.cells he 3 rfl
          obtain ⟨k0, k1, k2, -, -, -⟩ := DB.cells he 2 rfl
          obtain ⟨l0, l1, l2, -, -, -⟩ := DB.cells he 1 rfl
          obtain ⟨m0, m1, m2, -, -, -⟩ := DB.cells he 0 rfl
          have ivx := DB.iv he 6 rfl
          have ivd := DB.iv he 3 rfl
          have ive := DB.iv he 2 rfl
          have ivs := DB.iv he 1 rfl
          have ivt := DB.iv he 0 rfl
          clear he
          refine withs_guard rfl rfl ?_
          simp only [withs, List.getElem?_cons_zero, List.getElem?_cons_succ, Option.bind, Option.getD]
          repeat (first | (with_reducible refine all_isV ?_) | (with_reducible refine all_isWC ?_; intro sx Ax kx cx hvx hwx) | (with_reducible refine all_isNR ?_; intro Ax kx cx hvx) | (with_reducible refine all_isNV ?_; intro Ax kx cx hvx) | (with_reducible refine all_isDV ?_; intro sx Ax kx cx hvx) | (with_reducible refine all_isWV ?_; intro sx Ax kx cx hvx) | (with_reducible refine all_isD ?_; intro sx Ax kx cx hvx hwx) | (with_reducible refine all_isRow ?_; intro gx' hbx) | (with_reducible refine all_isPtr ?_; intro gp' hbp hgp))
          refine ⟨by kernel_rfl, ?_⟩
          go_simp
          (with_reducible exact grow_of (cmpV_d (x := e') (y := x) 0 (DV.of (by assumption)) (DV.of (by assumption)) BE BXD (by omega) QD2.out))
        refine owes2_cons (fun wx hox => ?_) ?_
        · skip
          skip
          refine withs_guard rfl rfl ?_
          simp only [withs, List.getElem?_cons_zero, List.getElem?_cons_succ, Option.bind, Option.getD]
          repeat (first | (with_reducible refine all_isV ?_) | (with_reducible refine all_isWC ?_; intro sx Ax kx cx hvx hwx) | (with_reducible refine all_isNR ?_; intro Ax kx cx hvx) | (with_reducible refine all_isNV ?_; intro Ax kx cx hvx) | (with_reducible refine all_isDV ?_; intro sx Ax kx cx hvx) | (with_reducible refine all_isWV ?_; intro sx Ax kx cx hvx) | (with_reducible refine all_isD ?_; intro sx Ax kx cx hvx hwx) | (with_reducible refine all_isRow ?_; intro gx' hbx) | (with_reducible refine all_isPtr ?_; intro gp' hbp hgp))
          refine ⟨by kernel_rfl, ?_⟩
          go_simp
          exact ⟨Only.refl _ _, isV.self _ _⟩
        refine owes2_cons (fun wx hox => ?_) ?_
        · skip
          skip
          refine withs_plain rfl ?_
          simp only [withs, List.getElem?_cons_zero, List.getElem?_cons_succ, Option.bind, Option.getD]
          repeat (first | (with_reducible refine all_isV ?_) | (with_reducible refine all_isWC ?_; intro sx Ax kx cx hvx hwx) | (with_reducible refine all_isNR ?_; intro Ax kx cx hvx) | (with_reducible refine all_isNV ?_; intro Ax kx cx hvx) | (with_reducible refine all_isDV ?_; intro sx Ax kx cx hvx) | (with_reducible refine all_isWV ?_; intro sx Ax kx cx hvx) | (with_reducible refine all_isD ?_; intro sx Ax kx cx hvx hwx) | (with_reducible refine all_isRow ?_; intro gx' hbx) | (with_reducible refine all_isPtr ?_; intro gp' hbp hgp))
          go_simp
          exact ⟨Only.refl _ _, isV.self _ _⟩
        refine owes2_cons (fun wx hox => ?_) ?_
        · skip
          skip
          refine withs_plain rfl ?_
          simp only [withs, List.getElem?_cons_zero, List.getElem?_cons_succ, Option.bind, Option.getD]
          repeat (first | (with_reducible refine all_isV ?_) | (with_reducible refine all_isWC ?_; intro sx Ax kx cx hvx hwx) | (with_reducible refine all_isNR ?_; intro Ax kx cx hvx) | (with_reducible refine all_isNV ?_; intro Ax kx cx hvx) | (with_reducible refine all_isDV ?_; intro sx Ax kx cx hvx) | (with_reducible refine all_isWV ?_; intro sx Ax kx cx hvx) | (with_reducible refine all_isD ?_; intro sx Ax kx cx hvx hwx) | (with_reducible refine all_isRow ?_; intro gx' hbx) | (with_reducible refine all_isPtr ?_; intro gp' hbp hgp))
          go_simp
          exact ⟨Only.refl _ _, isV.self _ _⟩
        refine owes2_cons (fun wx hox => ?_) ?_
        · skip
          skip
          refine withs_guard rfl rfl ?_
          simp only [withs, List.getElem?_cons_zero, List.getElem?_cons_succ, Option.bind, Option.getD]
          repeat (first | (with_reducible refine all_isV ?_) | (with_reducible refine all_isWC ?_; intro sx Ax kx cx hvx hwx) | (with_reducible refine all_isNR ?_; intro Ax kx cx hvx) | (with_reducible refine all_isNV ?_; intro Ax kx cx hvx) | (with_reducible refine all_isDV ?_; intro sx Ax kx cx hvx) | (with_reducible refine all_isWV ?_; intro sx Ax kx cx hvx) | (with_reducible refine all_isD ?_; intro sx Ax kx cx hvx hwx) | (with_reducible refine all_isRow ?_; intro gx' hbx) | (with_reducible refine all_isPtr ?_; intro gp' hbp hgp))
          refine ⟨by kernel_rfl, ?_⟩
          go_simp
          exact ⟨Only.refl _ _, isV.self _ _⟩
        refine owes2_cons (fun wx hox => ?_) ?_
        · skip
          skip
          refine withs_plain rfl ?_
          simp only [withs, List.getElem?_cons_zero, List.getElem?_cons_succ, Option.bind, Option.getD]
          repeat (first | (with_reducible refine all_isV ?_) | (with_reducible refine all_isWC ?_; intro sx Ax kx cx hvx hwx) | (with_reducible refine all_isNR ?_; intro Ax kx cx hvx) | (with_reducible refine all_isNV ?_; intro Ax kx cx hvx) | (with_reducible refine all_isDV ?_; intro sx Ax kx cx hvx) | (with_reducible refine all_isWV ?_; intro sx Ax kx cx hvx) | (with_reducible refine all_isD ?_; intro sx Ax kx cx hvx hwx) | (with_reducible refine all_isRow ?_; intro gx' hbx) | (with_reducible refine all_isPtr ?_; intro gp' hbp hgp))
          go_simp
          exact ⟨Only.refl _ _, isV.self _ _⟩
        refine owes2_cons (fun wx hox => ?_) ?_
        · skip
          skip
          refine withs_plain rfl ?_
          simp only [withs, List.getElem?_cons_zero, List.getElem?_cons_succ, Option.bind, Option.getD]
          repeat (first | (with_reducible refine all_isV ?_) | (with_reducible refine all_isWC ?_; intro sx Ax kx cx hvx hwx) | (with_reducible refine all_isNR ?_; intro Ax kx cx hvx) | (with_reducible refine all_isNV ?_; intro Ax kx cx hvx) | (with_reducible refine all_isDV ?_; intro sx Ax kx cx hvx) | (with_reducible refine all_isWV ?_; intro sx Ax kx cx hvx) | (with_reducible refine all_isD ?_; intro sx Ax kx cx hvx hwx) | (with_reducible refine all_isRow ?_; intro gx' hbx) | (with_reducible refine all_isPtr ?_; intro gp' hbp hgp))
          go_simp
          exact ⟨Only.refl _ _, isV.self _ _⟩
        refine owes2_cons (fun wx hox => ?_) ?_
        · skip
          skip
          refine withs_guard rfl rfl ?_
          simp only [withs, List.getElem?_cons_zero, List.getElem?_cons_succ, Option.bind, Option.getD]
          repeat (first | (with_reducible refine all_isV ?_) | (with_reducible refine all_isWC ?_; intro sx Ax kx cx hvx hwx) | (with_reducible refine all_isNR ?_; intro Ax kx cx hvx) | (with_reducible refine all_isNV ?_; intro Ax kx cx hvx) | (with_reducible refine all_isDV ?_; intro sx Ax kx cx hvx) | (with_reducible refine all_isWV ?_; intro sx Ax kx cx hvx) | (with_reducible refine all_isD ?_; intro sx Ax kx cx hvx hwx) | (with_reducible refine all_isRow ?_; intro gx' hbx) | (with_reducible refine all_isPtr ?_; intro gp' hbp hgp))
          refine ⟨by kernel_rfl, ?_⟩
          go_simp
          exact ⟨Only.refl _ _, isV.self _ _⟩
        refine owes2_cons (fun wx hox => ?_) ?_
        · skip
          skip
          refine withs_plain rfl ?_
          simp only [withs, List.getElem?_cons_zero, List.getElem?_cons_succ, Option.bind, Option.getD]
          repeat (first | (with_reducible refine all_isV ?_) | (with_reducible refine all_isWC ?_; intro sx Ax kx cx hvx hwx) | (with_reducible refine all_isNR ?_; intro Ax kx cx hvx) | (with_reducible refine all_isNV ?_; intro Ax kx cx hvx) | (with_reducible refine all_isDV ?_; intro sx Ax kx cx hvx) | (with_reducible refine all_isWV ?_; intro sx Ax kx cx hvx) | (with_reducible refine all_isD ?_; intro sx Ax kx cx hvx hwx) | (with_reducible refine all_isRow ?_; intro gx' hbx) | (with_reducible refine all_isPtr ?_; intro gp' hbp hgp))
          go_simp
          exact ⟨Only.refl _ _, isV.self _ _⟩
        refine owes2_cons (fun wx hox => ?_) ?_
        · skip
          skip
          refine withs_plain rfl ?_
          simp only [withs, List.getElem?_cons_zero, List.getElem?_cons_succ, Option.bind, Option.getD]
          repeat (first | (with_reducible refine all_isV ?_) | (with_reducible refine all_isWC ?_; intro sx Ax kx cx hvx hwx) | (with_reducible refine all_isNR ?_; intro Ax kx cx hvx) | (with_reducible refine all_isNV ?_; intro Ax kx cx hvx) | (with_reducible refine all_isDV ?_; intro sx Ax kx cx hvx) | (with_reducible refine all_isWV ?_; intro sx Ax kx cx hvx) | (with_reducible refine all_isD ?_; intro sx Ax kx cx hvx hwx) | (with_reducible refine all_isRow ?_; intro gx' hbx) | (with_reducible refine all_isPtr ?_; intro gp' hbp hgp))
          go_simp
          exact ⟨Only.refl _ _, isV.self _ _⟩
        refine owes2_cons (fun wx hox => ?_) ?_
        · skip
          have he := Lib.hid (HE.out.step hox)
          have htx := Lib.hid (hT.out.keep he.out.only)
          obtain ⟨i0, i1, i2, -, -, -⟩ := DB.cells he 6 rfl
          obtain ⟨j0, j1, j2, -, -, -⟩ := DB.cells he 3 rfl
          obtain ⟨k0, k1, k2, -, -, -⟩ := DB.cells he 2 rfl
          obtain ⟨l0, l1, l2, -, -, -⟩ := DB.cells he 1 rfl
          obtain ⟨m0, m1, m2, -, -, -⟩ := DB.cells he 0 rfl
          have ivx := DB.iv he 6 rfl
          have ivd := DB.iv he 3 rfl
          have ive := DB.iv he 2 rfl
          have ivs := DB.iv he 1 rfl
          have ivt := DB.iv he 0 rfl
          clear he
          refine withs_guard rfl rfl ?_
          simp only [withs, List.getElem?_cons_zero, List.getElem?_cons_succ, Option.bind, Option.getD]
          repeat (first | (with_reducible refine all_isV ?_) | (with_reducible refine all_isWC ?_; intro sx Ax kx cx hvx hwx) | (with_reducible refine all_isNR ?_; intro Ax kx cx hvx) | (with_reducible refine all_isNV ?_; intro Ax kx cx hvx) | (with_reducible refine all_isDV ?_; intro sx Ax kx cx hvx) | (with_reducible refine all_isWV ?_; intro sx Ax kx cx hvx) | (with_reducible refine all_isD ?_; intro sx Ax kx cx hvx hwx) | (with_reducible refine all_isRow ?_; intro gx' hbx) | (with_reducible refine all_isPtr ?_; intro gp' hbp hgp))
          refine ⟨by kernel_rfl, ?_⟩
          go_simp
          exact ⟨Only.refl _ _, isV.self _ _⟩
        refine owes2_cons (fun wx hox => ?_) ?_
        · skip
          have he := Lib.hid (HE.out.step hox)
          have htx := Lib.hid (hT.out.keep he.out.only)
          obtain ⟨i0, i1, i2, -, -, -⟩ := DB.cells he 6 rfl
          obtain ⟨j0, j1, j2, -, -, -⟩ := DB.cells he 3 rfl
          obtain ⟨k0, k1, k2, -, -, -⟩ := DB.cells he 2 rfl
          obtain ⟨l0, l1, l2, -, -, -⟩ := DB.cells he 1 rfl
          obtain ⟨m0, m1, m2, -, -, -⟩ := DB.cells he 0 rfl
          have ivx := DB.iv he 6 rfl
          have ivd := DB.iv he 3 rfl
          have ive := DB.iv he 2 rfl
          have ivs := DB.iv he 1 rfl
          have ivt := DB.iv he 0 rfl
          clear he
          refine withs_guard rfl rfl ?_
          simp only [withs, List.getElem?_cons_zero, List.getElem?_cons_succ, Option.bind, Option.getD]
          repeat (first | (with_reducible refine all_isV ?_) | (with_reducible refine all_isWC ?_; intro sx Ax kx cx hvx hwx) | (with_reducible refine all_isNR ?_; intro Ax kx cx hvx) | (with_reducible refine all_isNV ?_; intro Ax kx cx hvx) | (with_reducible refine all_isDV ?_; intro sx Ax kx cx hvx) | (with_reducible refine all_isWV ?_; intro sx Ax kx cx hvx) | (with_reducible refine all_isD ?_; intro sx Ax kx cx hvx hwx) | (with_reducible refine all_isRow ?_; intro gx' hbx) | (with_reducible refine all_isPtr ?_; intro gp' hbp hgp))
          refine ⟨by kernel_rfl, ?_⟩
          go_simp
          exact ⟨Only.refl _ _, isV.self _ _⟩
        refine owes2_cons (fun wx hox => ?_) ?_
        · skip
          have he := Lib.hid (HE.out.step hox)
          have htx := Lib.hid (hT.out.keep he.out.only)
          obtain ⟨i0, i1, i2, -, -, -⟩ := DB.cells he 6 rfl
          obtain ⟨j0, j1, j2, -, -, -⟩ := DB.cells he 3 rfl
          obtain ⟨k0, k1, k2, -, -, -⟩ := DB.cells he 2 rfl
          obtain ⟨l0, l1, l2, -, -, -⟩ := DB.cells he 1 rfl
          obtain ⟨m0, m1, m2, -, -, -⟩ := DB.cells he 0 rfl
          have ivx := DB.iv he 6 rfl
          have ivd := DB.iv he 3 rfl
          have ive := DB.iv he 2 rfl
          have ivs := DB.iv he 1 rfl
          have ivt := DB.iv he 0 rfl
          clear he
          refine withs_guard rfl rfl ?_
          simp only [withs, List.getElem?_cons_zero, List.getElem?_cons_succ, Option.bind, Option.getD]
          repeat (first | (with_reducible refine all_isV ?_) | (with_reducible refine all_isWC ?_; intro sx Ax kx cx hvx hwx) | (with_reducible refine all_isNR ?_; intro Ax kx cx hvx) | (with_reducible refine all_isNV ?_; intro Ax kx cx hvx) | (with_reducible refine all_isDV ?_; intro sx Ax kx cx hvx) | (with_reducible refine all_isWV ?_; intro sx Ax kx cx hvx) | (with_reducible refine all_isD ?_; intro sx Ax kx cx hvx hwx) | (with_reducible refine all_isRow ?_; intro gx' hbx) | (with_reducible refine all_isPtr ?_; intro gp' hbp hgp))
          refine ⟨by kernel_rfl, ?_⟩
          go_simp
          (with_reducible exact grow_of (cmpV_d (x := s) (y := t) 0 (DV.of (by assumption)) (DV.of (by assumption)) BS BT (by omega) QST.out))
        refine owes2_cons (fun wx hox => ?_) ?_
        · skip
          skip
          refine withs_guard rfl rfl ?_
          simp only [withs, List.getElem?_cons_zero, List.getElem?_cons_succ, Option.bind, Option.getD]
          repeat (first | (with_reducible refine all_isV ?_) | (with_reducible refine all_isWC ?_; intro sx Ax kx cx hvx hwx) | (with_reducible refine all_isNR ?_; intro Ax kx cx hvx) | (with_reducible refine all_isNV ?_; intro Ax kx cx hvx) | (with_reducible refine all_isDV ?_; intro sx Ax kx cx hvx) | (with_reducible refine all_isWV ?_; intro sx Ax kx cx hvx) | (with_reducible refine all_isD ?_; intro sx Ax kx cx hvx hwx) | (with_reducible refine all_isRow ?_; intro gx' hbx) | (with_reducible refine all_isPtr ?_; intro gp' hbp hgp))
          refine ⟨by kernel_rfl, ?_⟩
          go_simp
          exact ⟨Only.refl _ _, isV.self _ _⟩
        refine owes2_cons (fun wx hox => ?_) ?_
        · skip
          skip
          refine withs_plain rfl ?_
          simp only [withs, List.getElem?_cons_zero, List.getElem?_cons_succ, Option.bind, Option.getD]
          repeat (first | (with_reducible refine all_isV ?_) | (with_reducible refine all_isWC ?_; intro sx Ax kx cx hvx hwx) | (with_reducible refine all_isNR ?_; intro Ax kx cx hvx) | (with_reducible refine all_isNV ?_; intro Ax kx cx hvx) | (with_reducible refine all_isDV ?_; intro sx Ax kx cx hvx) | (with_reducible refine all_isWV ?_; intro sx Ax kx cx hvx) | (with_reducible refine all_isD ?_; intro sx Ax kx cx hvx hwx) | (with_reducible refine all_isRow ?_; intro gx' hbx) | (with_reducible refine all_isPtr ?_; intro gp' hbp hgp))
          go_simp
          exact ⟨Only.refl _ _, isV.self _ _⟩
        refine owes2_cons (fun wx hox => ?_) ?_
        · skip
          skip
          refine withs_plain rfl ?_
          simp only [withs, List.getElem?_cons_zero, List.getElem?_cons_succ, Option.bind, Option.getD]
          repeat (first | (with_reducible refine all_isV ?_) | (with_reducible refine all_isWC ?_; intro sx Ax kx cx hvx hwx) | (with_reducible refine all_isNR ?_; intro Ax kx cx hvx) | (with_reducible refine all_isNV ?_; intro Ax kx cx hvx) | (with_reducible refine all_isDV ?_; intro sx Ax kx cx hvx) | (with_reducible refine all_isWV ?_; intro sx Ax kx cx hvx) | (with_reducible refine all_isD ?_; intro sx Ax kx cx hvx hwx) | (with_reducible refine all_isRow ?_; intro gx' hbx) | (with_reducible refine all_isPtr ?_; intro gp' hbp hgp))
          go_simp
          exact ⟨Only.refl _ _, isV.self _ _⟩
        refine owes2_cons (fun wx hox => ?_) ?_
        · skip
          have he := Lib.hid (HE.out.step hox)
          have htx := Lib.hid (hT.out.keep he.out.only)
          obtain ⟨i0, i1, i2, -, -, -⟩ := DB.cells he 6 rfl
          obtain ⟨j0, j1, j2, -, -, -⟩ := DB.cells he 3 rfl
          obtain ⟨k0, k1, k2, -, -, -⟩ := DB.cells he 2 rfl
          obtain ⟨l0, l1, l2, -, -, -⟩ := DB.cells he 1 rfl
          obtain ⟨m0, m1, m2, -, -, -⟩ := DB.cells he 0 rfl
          have ivx := DB.iv he 6 rfl
          have ivd := DB.iv he 3 rfl
          have ive := DB.iv he 2 rfl
          have ivs := DB.iv he 1 rfl
          have ivt := DB.iv he 0 rfl
          clear he
          refine withs_guard rfl rfl ?_
          simp only [withs, List.getElem?_cons_zero, List.getElem?_cons_succ, Option.bind, Option.getD]
          repeat (first | (with_reducible refine all_isV ?_) | (with_reducible refine all_isWC ?_; intro sx Ax kx cx hvx hwx) | (with_reducible refine all_isNR ?_; intro Ax kx cx hvx) | (with_reducible refine all_isNV ?_; intro Ax kx cx hvx) | (with_reducible refine all_isDV ?_; intro sx Ax kx cx hvx) | (with_reducible refine all_isWV ?_; intro sx Ax kx cx hvx) | (with_reducible refine all_isD ?_; intro sx Ax kx cx hvx hwx) | (with_reducible refine all_isRow ?_; intro gx' hbx) | (with_reducible refine all_isPtr ?_; intro gp' hbp hgp))
          refine ⟨by kernel_rfl, ?_⟩
          go_simp
          exact ⟨Only.refl _ _, isV.self _ _⟩
        refine owes2_cons (fun wx hox => ?_) ?_
        · skip
          have he := Lib.hid (HE.out.step hox)
          have htx := Lib.hid (hT.out.keep he.out.only)
          obtain ⟨i0, i1, i2, -, -, -⟩ := DB.cells he 6 rfl
          obtain ⟨j0, j1, j2, -, -, -⟩ := DB.cells he 3 rfl
          obtain ⟨k0, k1, k2, -, -, -⟩ := DB.cells he 2 rfl
          obtain ⟨l0, l1, l2, -, -, -⟩ := DB.cells he 1 rfl
          obtain ⟨m0, m1, m2, -, -, -⟩ := DB.cells he 0 rfl
          have ivx := DB.iv he 6 rfl
          have ivd := DB.iv he 3 rfl
          have ive := DB.iv he 2 rfl
          have ivs := DB.iv he 1 rfl
          have ivt := DB.iv he 0 rfl
          clear he
          refine withs_guard rfl rfl ?_
          simp only [withs, List.getElem?_cons_zero, List.getElem?_cons_succ, Option.bind, Option.getD]
          repeat (first | (with_reducible refine all_isV ?_) | (with_reducible refine all_isWC ?_; intro sx Ax kx cx hvx hwx) | (with_reducible refine all_isNR ?_; intro Ax kx cx hvx) | (with_reducible refine all_isNV ?_; intro Ax kx cx hvx) | (with_reducible refine all_isDV ?_; intro sx Ax kx cx hvx) | (with_reducible refine all_isWV ?_; intro sx Ax kx cx hvx) | (with_reducible refine all_isD ?_; intro sx Ax kx cx hvx hwx) | (with_reducible refine all_isRow ?_; intro gx' hbx) | (with_reducible refine all_isPtr ?_; intro gp' hbp hgp))
          refine ⟨by kernel_rfl, ?_⟩
          go_simp
          exact ⟨Only.refl _ _, isV.self _ _⟩
        refine owes2_cons (fun wx hox => ?_) ?_
        · skip
          have he := Lib.hid (HE.out.step hox)
          have htx := Lib.hid (hT.out.keep he.out.only)
          obtain ⟨i0, i1, i2, -, -, -⟩ := DB.cells he 6 rfl
          obtain ⟨j0, j1, j2, -, -, -⟩ := DB.cells he 3 rfl
          obtain ⟨k0, k1, k2, -, -, -⟩ := DB.cells he 2 rfl
          obtain ⟨l0, l1, l2, -, -, -⟩ := DB.cells he 1 rfl
          obtain ⟨m0, m1, m2, -, -, -⟩ := DB.cells he 0 rfl
          have ivx := DB.iv he 6 rfl
          have ivd := DB.iv he 3 rfl
          have ive := DB.iv he 2 rfl
          have ivs := DB.iv he 1 rfl
          have ivt := DB.iv he 0 rfl
          clear he
          refine withs_guard rfl rfl ?_
          simp only [withs, List.getElem?_cons_zero, List.getElem?_cons_succ, Option.bind, Option.getD]
          repeat (first | (with_reducible refine all_isV ?_) | (with_reducible refine all_isWC ?_; intro sx Ax kx cx hvx hwx) | (with_reducible refine all_isNR ?_; intro Ax kx cx hvx) | (with_reducible refine all_isNV ?_; intro Ax kx cx hvx) | (with_reducible refine all_isDV ?_; intro sx Ax kx cx hvx) | (with_reducible refine all_isWV ?_; intro sx Ax kx cx hvx) | (with_reducible refine all_isD ?_; intro sx Ax kx cx hvx hwx) | (with_reducible refine all_isRow ?_; intro gx' hbx) | (with_reducible refine all_isPtr ?_; intro gp' hbp hgp))
          refine ⟨by kernel_rfl, ?_⟩
          go_simp
          (with_reducible exact grow_d (mul_d (DV.of (by assumption)) (DV.of (by assumption)) BS BS (by omega) htx))
        refine owes2_cons (fun wx hox => ?_) ?_
        · skip
          have he := Lib.hid (HE.out.step hox)
          have htx := Lib.hid (hT.out.keep he.out.only)
          obtain ⟨i0, i1, i2, -, -, -⟩ := DB.cells he 6 rfl
          obtain ⟨j0, j1, j2, -, -, -⟩ := DB.cells he 3 rfl
          obtain ⟨k0, k1, k2, -, -, -⟩ := DB.cells he 2 rfl
          obtain ⟨l0, l1, l2, -, -, -⟩ := DB.cells he 1 rfl
          obtain ⟨m0, m1, m2, -, -, -⟩ := DB.cells he 0 rfl
          have ivx := DB.iv he 6 rfl
          have ivd := DB.iv he 3 rfl
          have ive := DB.iv he 2 rfl
          have ivs := DB.iv he 1 rfl
          have ivt := DB.iv he 0 rfl
          clear he
          refine withs_guard rfl rfl ?_
          simp only [withs, List.getElem?_cons_zero, List.getElem?_cons_succ, Option.bind, Option.getD]
          repeat (first | (with_reducible refine all_isV ?_) | (with_reducible refine all_isWC ?_; intro sx Ax kx cx hvx hwx) | (with_reducible refine all_isNR ?_; intro Ax kx cx hvx) | (with_reducible refine all_isNV ?_; intro Ax kx cx hvx) | (with_reducible refine all_isDV ?_; intro sx Ax kx cx hvx) | (with_reducible refine all_isWV ?_; intro sx Ax kx cx hvx) | (with_reducible refine all_isD ?_; intro sx Ax kx cx hvx hwx) | (with_reducible refine all_isRow ?_; intro gx' hbx) | (with_reducible refine all_isPtr ?_; intro gp' hbp hgp))
          refine ⟨by kernel_rfl, ?_⟩
          go_simp
          exact ⟨Only.refl _ _, isV.self _ _⟩
        refine owes2_cons (fun wx hox => ?_) ?_
        · skip
          have he := Lib.hid (HE.out.step hox)
          have htx := Lib.hid (hT.out.keep he.out.only)
          obtain ⟨i0, i1, i2, -, -, -⟩ := DB.cells he 6 rfl
          obtain ⟨j0, j1, j2, -, -, -⟩ := DB.cells he 3 rfl
          obtain ⟨k0, k1, k2, -, -, -⟩ := DB.cells he 2 rfl
          obtain ⟨l0, l1, l2, -, -, -⟩ := DB.cells he 1 rfl
          obtain ⟨m0, m1, m2, -, -, -⟩ := DB.cells he 0 rfl
          have ivx := DB.iv he 6 rfl
          have ivd := DB.iv he 3 rfl
          have ive := DB.iv he 2 rfl
          have ivs := DB.iv he 1 rfl
          have ivt := DB.iv he 0 rfl
          clear he
          refine withs_guard rfl rfl ?_
          simp only [withs, List.getElem?_cons_zero, List.getElem?_cons_succ, Option.bind, Option.getD]
          repeat (first | (with_reducible refine all_isV ?_) | (with_reducible refine all_isWC ?_; intro sx Ax kx cx hvx hwx) | (with_reducible refine all_isNR ?_; intro Ax kx cx hvx) | (with_reducible refine all_isNV ?_; intro Ax kx cx hvx) | (with_reducible refine all_isDV ?_; intro sx Ax kx cx hvx) | (with_reducible refine all_isWV ?_; intro sx Ax kx cx hvx) | (with_reducible refine all_isD ?_; intro sx Ax kx cx hvx hwx) | (with_reducible refine all_isRow ?_; intro gx' hbx) | (with_reducible refine all_isPtr ?_; intro gp' hbp hgp))
          refine ⟨by kernel_rfl, ?_⟩
          go_simp
          exact ⟨Only.refl _ _, isV.self _ _⟩
        refine owes2_cons (fun wx hox => ?_) ?_
        · skip
          have he := Lib.hid (HE.out.step hox)
          have htx := Lib.hid (hT.out.keep he.out.only)
          obtain ⟨i0, i1, i2, -, -, -⟩ := DB.cells he 6 rfl
          obtain ⟨j0, j1, j2, -, -, -⟩ := DB.cells he 3 rfl
          obtain ⟨k0, k1, k2, -, -, -⟩ := DB.cells he 2 rfl
          obtain ⟨l0, l1, l2, -, -, -⟩ := DB.cells he 1 rfl
          obtain ⟨m0, m1, m2, -, -, -⟩ := DB.cells he 0 rfl
          have ivx := DB.iv he 6 rfl
          have ivd := DB.iv he 3 rfl
          have ive := DB.iv he 2 rfl
          have ivs := DB.iv he 1 rfl
          have ivt := DB.iv he 0 rfl
          clear he
          refine withs_guard rfl rfl ?_
          simp only [withs, List.getElem?_cons_zero, List.getElem?_cons_succ, Option.bind, Option.getD]
          repeat (first | (with_reducible refine all_isV ?_) | (with_reducible refine all_isWC ?_; intro sx Ax kx cx hvx hwx) | (with_reducible refine all_isNR ?_; intro Ax kx cx hvx) | (with_reducible refine all_isNV ?_; intro Ax kx cx hvx) | (with_reducible refine all_isDV ?_; intro sx Ax kx cx hvx) | (with_reducible refine all_isWV ?_; intro sx Ax kx cx hvx) | (with_reducible refine all_isD ?_; intro sx Ax kx cx hvx hwx) | (with_reducible refine all_isRow ?_; intro gx' hbx) | (with_reducible refine all_isPtr ?_; intro gp' hbp hgp))
          refine ⟨by kernel_rfl, ?_⟩
          go_simp
          (with_reducible exact grow_d (mul_d (DV.of (by assumption)) (DV.of (by assumption)) BX BX (by omega) htx))
        refine owes2_cons (fun wx hox => ?_) ?_
        · skip
          have he := Lib.hid (HE.out.step hox)
          have htx := Lib.hid (hT.out.keep he.out.only)
          obtain ⟨i0, i1, i2, -, -, -⟩ := DB.cells he 6 rfl
          obtain ⟨j0, j1, j2, -, -, -⟩ := DB.cells he 3 rfl
          obtain ⟨k0, k1, k2, -, -, -⟩ := DB.cells he 2 rfl
          obtain ⟨l0, l1, l2, -, -, -⟩ := DB.cells he 1 rfl
          obtain ⟨m0, m1, m2, -, -, -⟩ := DB.cells he 0 rfl
          have ivx := DB.iv he 6 rfl
          have ivd := DB.iv he 3 rfl
          have ive := DB.iv he 2 rfl
          have ivs := DB.iv he 1 rfl
          have ivt := DB.iv he 0 rfl
          clear he
          refine withs_guard rfl rfl ?_
          simp only [withs, List.getElem?_cons_zero, List.getElem?_cons_succ, Option.bind, Option.getD]
          repeat (first | (with_reducible refine all_isV ?_) | (with_reducible refine all_isWC ?_; intro sx Ax kx cx hvx hwx) | (with_reducible refine all_isNR ?_; intro Ax kx cx hvx) | (with_reducible refine all_isNV ?_; intro Ax kx cx hvx) | (with_reducible refine all_isDV ?_; intro sx Ax kx cx hvx) | (with_reducible refine all_isWV ?_; intro sx Ax kx cx hvx) | (with_reducible refine all_isD ?_; intro sx Ax kx cx hvx hwx) | (with_reducible refine all_isRow ?_; intro gx' hbx) | (with_reducible refine all_isPtr ?_; intro gp' hbp hgp))
          refine ⟨by kernel_rfl, ?_⟩
          go_simp
          (with_reducible exact grow_of (cmpV_d (x := dMul s s) (y := dMul x x) 0 (DV.of (by assumption)) (DV.of (by assumption)) BSS BXX (by omega) QSS.out))
        refine owes2_cons (fun wx hox => ?_) ?_
        · skip
          skip
          refine withs_guard rfl rfl ?_
          simp only [withs, List.getElem?_cons_zero, List.getElem?_cons_succ, Option.bind, Option.getD]
          repeat (first | (with_reducible refine all_isV ?_) | (with_reducible refine all_isWC ?_; intro sx Ax kx cx hvx hwx) | (with_reducible refine all_isNR ?_; intro Ax kx cx hvx) | (with_reducible refine all_isNV ?_; intro Ax kx cx hvx) | (with_reducible refine all_isDV ?_; intro sx Ax kx cx hvx) | (with_reducible refine all_isWV ?_; intro sx Ax kx cx hvx) | (with_reducible refine all_isD ?_; intro sx Ax kx cx hvx hwx) | (with_reducible refine all_isRow ?_; intro gx' hbx) | (with_reducible refine all_isPtr ?_; intro gp' hbp hgp))
          refine ⟨by kernel_rfl, ?_⟩
          go_simp
          exact ⟨Only.refl _ _, isV.self _ _⟩
        refine owes2_cons (fun wx hox => ?_) ?_
        · skip
          skip
          refine withs_plain rfl ?_
          simp only [withs, List.getElem?_cons_zero, List.getElem?_cons_succ, Option.bind, Option.getD]
          repeat (first | (with_reducible refine all_isV ?_) | (with_reducible refine all_isWC ?_; intro sx Ax kx cx hvx hwx) | (with_reducible refine all_isNR ?_; intro Ax kx cx hvx) | (with_reducible refine all_isNV ?_; intro Ax kx cx hvx) | (with_reducible refine all_isDV ?_; intro sx Ax kx cx hvx) | (with_reducible refine all_isWV ?_; intro sx Ax kx cx hvx) | (with_reducible refine all_isD ?_; intro sx Ax kx cx hvx hwx) | (with_reducible refine all_isRow ?_; intro gx' hbx) | (with_reducible refine all_isPtr ?_; intro gp' hbp hgp))
          go_simp
          exact ⟨Only.refl _ _, isV.self _ _⟩
        refine owes2_cons (fun wx hox => ?_) ?_
        · skip
          skip
          refine withs_plain rfl ?_
          simp only [withs, List.getElem?_cons_zero, List.getElem?_cons_succ, Option.bind, Option.getD]
          repeat (first | (with_reducible refine all_isV ?_) | (with_reducible refine all_isWC ?_; intro sx Ax kx cx hvx hwx) | (with_reducible refine all_isNR ?_; intro Ax kx cx hvx) | (with_reducible refine all_isNV ?_; intro Ax kx cx hvx) | (with_reducible refine all_isDV ?_; intro sx Ax kx cx hvx) | (with_reducible refine all_isWV ?_; intro sx Ax kx cx hvx) | (with_reducible refine all_isD ?_; intro sx Ax kx cx hvx hwx) | (with_reducible refine all_isRow ?_; intro gx' hbx) | (with_reducible refine all_isPtr ?_; intro gp' hbp hgp))
          go_simp
          exact ⟨Only.refl _ _, isV.self _ _⟩
        refine owes2_cons (fun wx hox => ?_) ?_
        · skip
          have he := Lib.hid (HE.out.step hox)
          have htx := Lib.hid (hT.out.keep he.out.only)
          obtain ⟨i0, i1, i2, -, -, -⟩ := DB.cells he 6 rfl
          obtain ⟨j0, j1, j2, -, -, -⟩ := DB.cells he 3 rfl
          obtain ⟨k0, k1, k2, -, -, -⟩ := DB.cells he 2 rfl
          obtain ⟨l0, l1, l2, -, -, -⟩ := DB.cells he 1 rfl
          obtain ⟨m0, m1, m2, -, -, -⟩ := DB.cells he 0 rfl
          have ivx := DB.iv he 6 rfl
          have ivd := DB.iv he 3 rfl
          have ive := DB.iv he 2 rfl
          have ivs := DB.iv he 1 rfl
          have ivt := DB.iv he 0 rfl
          clear he
          refine withs_guard rfl rfl ?_
          simp only [withs, List.getElem?_cons_zero, List.getElem?_cons_succ, Option.bind, Option.getD]
          repeat (first | (with_reducible refine all_isV ?_) | (with_reducible refine all_isWC ?_; intro sx Ax kx cx hvx hwx) | (with_reducible refine all_isNR ?_; intro Ax kx cx hvx) | (with_reducible refine all_isNV ?_; intro Ax kx cx hvx) | (with_reducible refine all_isDV ?_; intro sx Ax kx cx hvx) | (with_reducible refine all_isWV ?_; intro sx Ax kx cx hvx) | (with_reducible refine all_isD ?_; intro sx Ax kx cx hvx hwx) | (with_reducible refine all_isRow ?_; intro gx' hbx) | (with_reducible refine all_isPtr ?_; intro gp' hbp hgp))
          refine ⟨by kernel_rfl, ?_⟩
          go_simp
          exact ⟨Only.refl _ _, isV.self _ _⟩
        refine owes2_cons (fun wx hox => ?_) ?_
        · skip
          have he := Lib.hid (HE.out.step hox)
          have htx := Lib.hid (hT.out.keep he.out.only)
          obtain ⟨i0, i1, i2, -, -, -⟩ := DB.cells he 6 rfl
          obtain ⟨j0, j1, j2, -, -, -⟩ := DB.cells he 3 rfl
          obtain ⟨k0, k1, k2, -, -, -⟩ := DB.cells he 2 rfl
          obtain ⟨l0, l1, l2, -, -, -⟩ := DB.cells he 1 rfl
          obtain ⟨m0, m1, m2, -, -, -⟩ := DB.cells he 0 rfl
          have ivx := DB.iv he 6 rfl
          have ivd := DB.iv he 3 rfl
          have ive := DB.iv he 2 rfl
          have ivs := DB.iv he 1 rfl
          have ivt := DB.iv he 0 rfl
          clear he
          refine withs_guard rfl rfl ?_
          simp only [withs, List.getElem?_cons_zero, List.getElem?_cons_succ, Option.bind, Option.getD]
          repeat (first | (with_reducible refine all_isV ?_) | (with_reducible refine all_isWC ?_; intro sx Ax kx cx hvx hwx) | (with_reducible refine all_isNR ?_; intro Ax kx cx hvx) | (with_reducible refine all_isNV ?_; intro Ax kx cx hvx) | (with_reducible refine all_isDV ?_; intro sx Ax kx cx hvx) | (with_reducible refine all_isWV ?_; intro sx Ax kx cx hvx) | (with_reducible refine all_isD ?_; intro sx Ax kx cx hvx hwx) | (with_reducible refine all_isRow ?_; intro gx' hbx) | (with_reducible refine all_isPtr ?_; intro gp' hbp hgp))
          refine ⟨by kernel_rfl, ?_⟩
          go_simp
          (with_reducible exact grow_of (signV_d (x := s) ps (DV.of (by assumption)) HPS.out))
        refine owes2_cons (fun wx hox => ?_) ?_
        · skip
          skip
          refine withs_guard rfl rfl ?_
          simp only [withs, List.getElem?_cons_zero, List.getElem?_cons_succ, Option.bind, Option.getD]
          repeat (first | (with_reducible refine all_isV ?_) | (with_reducible refine all_isWC ?_; intro sx Ax kx cx hvx hwx) | (with_reducible refine all_isNR ?_; intro Ax kx cx hvx) | (with_reducible refine all_isNV ?_; intro Ax kx cx hvx) | (with_reducible refine all_isDV ?_; intro sx Ax kx cx hvx) | (with_reducible refine all_isWV ?_; intro sx Ax kx cx hvx) | (with_reducible refine all_isD ?_; intro sx Ax kx cx hvx hwx) | (with_reducible refine all_isRow ?_; intro gx' hbx) | (with_reducible refine all_isPtr ?_; intro gp' hbp hgp))
          refine ⟨by kernel_rfl, ?_⟩
          go_simp
          exact ⟨Only.refl _ _, isV.self _ _⟩
        refine owes2_cons (fun wx hox => ?_) ?_
        · skip
          skip
          refine withs_plain rfl ?_
          simp only [withs, List.getElem?_cons_zero, List.getElem?_cons_succ, Option.bind, Option.getD]
          repeat (first | (with_reducible refine all_isV ?_) | (with_reducible refine all_isWC ?_; intro sx Ax kx cx hvx hwx) | (with_reducible refine all_isNR ?_; intro Ax kx cx hvx) | (with_reducible refine all_isNV ?_; intro Ax kx cx hvx) | (with_reducible refine all_isDV ?_; intro sx Ax kx cx hvx) | (with_reducible refine all_isWV ?_; intro sx Ax kx cx hvx) | (with_reducible refine all_isD ?_; intro sx Ax kx cx hvx hwx) | (with_reducible refine all_isRow ?_; intro gx' hbx) | (with_reducible refine all_isPtr ?_; intro gp' hbp hgp))
          go_simp
          exact ⟨Only.refl _ _, isV.self _ _⟩
        refine owes2_cons (fun wx hox => ?_) ?_
        · skip
          skip
          refine withs_plain rfl ?_
          simp only [withs, List.getElem?_cons_zero, List.getElem?_cons_succ, Option.bind, Option.getD]
          repeat (first | (with_reducible refine all_isV ?_) | (with_reducible refine all_isWC ?_; intro sx Ax kx cx hvx hwx) | (with_reducible refine all_isNR ?_; intro Ax kx cx hvx) | (with_reducible refine all_isNV ?_; intro Ax kx cx hvx) | (with_reducible refine all_isDV ?_; intro sx Ax kx cx hvx) | (with_reducible refine all_isWV ?_; intro sx Ax kx cx hvx) | (with_reducible refine all_isD ?_; intro sx Ax kx cx hvx hwx) | (with_reducible refine all_isRow ?_; intro gx' hbx) | (with_reducible refine all_isPtr ?_; intro gp' hbp hgp))
          go_simp
          exact ⟨Only.refl _ _, isV.self _ _⟩
        exact owes2_nil
      case he =>
        intro wx hox
        refine withs_of (by simp only [List.length, List.range, List.range.loop]; exact rfl) ?_
        simp only [withs, List.getElem?_cons_zero, List.getElem?_cons_succ, Option.bind, Option.getD]
        repeat (first | (with_reducible refine all_isV ?_) | (with_reducible refine all_isWC ?_; intro sx Ax kx cx hvx hwx) | (with_reducible refine all_isNR ?_; intro Ax kx cx hvx) | (with_reducible refine all_isNV ?_; intro Ax kx cx hvx) | (with_reducible refine all_isDV ?_; intro sx Ax kx cx hvx) | (with_reducible refine all_isWV ?_; intro sx Ax kx cx hvx) | (with_reducible refine all_isD ?_; intro sx Ax kx cx hvx hwx) | (with_reducible refine all_isRow ?_; intro gx' hbx) | (with_reducible refine all_isPtr ?_; intro gp' hbp hgp))
        go_simp
        go_wp2_with fail
        go_ret
        exact ⟨rfl, HE.out.only.nil_trans hox⟩
      case hl =>
        repeat (refine List.forall_mem_cons.2 ⟨?_, ?_⟩; first | exact isV.lasts _ | exact isD.lasts _ | exact isNV.lasts _ | exact isDV.lasts _ | exact isWV.lasts _ | exact isWC.lasts _ | exact isNR.lasts _ _ | exact isWR.lasts _ _ | exact isRow.lasts _ _ _ | exact isPtr.lasts _ _ _)
        exact fun _ h => (by cases h)
  case hl =>
    repeat (refine List.forall_mem_cons.2 ⟨?_, ?_⟩; first | exact isV.lasts _ | exact isD.lasts _ | exact isNV.lasts _ | exact isDV.lasts _ | exact isWV.lasts _ | exact isWC.lasts _ | exact isNR.lasts _ _ | exact isWR.lasts _ _ | exact isRow.lasts _ _ _ | exact isPtr.lasts _ _ _)
    exact fun _ h => (by cases h)

end Go.Proofs.YtphjcphcgnjogaaDoor
