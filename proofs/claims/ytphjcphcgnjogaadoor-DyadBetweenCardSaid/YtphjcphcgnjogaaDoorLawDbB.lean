/-
  DyadBetween: what is looked at.
-/
import Derived.Test.YtphjcphcgnjogaaDoorLawDbA
namespace Go.Proofs.YtphjcphcgnjogaaDoor
set_option linter.unusedSimpArgs false
open Go.RowKit

theorem short3V_any {w : World} {a : Value} {x : Dy} (p : Int) (b : Bool) (ha : Hid (DV w a x)) (hb : decide ((bitsN x.z.natAbs : Int) ≤ p) = b) : Calls Tryd.prog 32 #[a, .int .i64 p] w fun e w' => e = .returned (.bool b) ∧ Only [] w w' := hb ▸ short3_any p ha
theorem makeV_d {w : World} {m : Value} {z e : Int} (r : Dy) (hr : nrm z e = r) (ha : Hid (IV w m z)) (hb : Hid (bitsN z.natAbs ≤ 16777216)) (h1 : -4000000000000000000 ≤ e) (h2 : e ≤ 4000000000000000000) (hT : Hid (Tab6 w)) : Calls Tryd.prog 33 #[m, .int .i64 e] w (DPost r w) := hr ▸ make_d ha hb h1 h2 hT

set_option maxHeartbeats 16000000 in
set_option maxRecDepth 100000 in
theorem dbetw_in (n1 n2 : Bool) (A1 A2 : Option Addr) (L1 L2 : List Nat) (c1 c2 : Nat) (x y : Dy) (p : Int) (w : World) (HZ1 : Hid (sg n1 (val L1) = x.z)) (HZ2 : Hid (sg n2 (val L2) = y.z)) (H1 : Hid (LimbsIn w A1 L1)) (H2 : Hid (LimbsIn w A2 L2)) (htab : Hid (Tab w)) (hT : Hid (Tab6 w))
    (hl1 : (L1.length : Int) ≤ 40) (hl2 : (L2.length : Int) ≤ 40) (q3 : ¬ p < 1) (q4 : ¬ 300 < p) (he1 : -3000 ≤ x.e ∧ x.e ≤ 3000) (he2 : -3000 ≤ y.e ∧ y.e ≤ 3000) :
    Calls Tryd.prog 7 #[.agg #[.bool n1, .slice A1 L1.length c1, .int .i64 x.e], .agg #[.bool n2, .slice A2 L2.length c2, .int .i64 y.e], .int .i64 p] w fun e w' => e = .returned (.bool true) ∧ Only [] w w' := by
  obtain ⟨N, hN⟩ : ∃ N : Nat, N = 3000 := ⟨_, rfl⟩
  have BX : Hid (Bnd N x) := num_bnd (by omega) (by omega) H1.out.2 HZ1.out he1.1 he1.2
  have BY : Hid (Bnd N y) := num_bnd (by omega) (by omega) H2.out.2 HZ2.out he2.1 he2.2
  have hN3 : N ≤ 3000 := by omega
  have hPp : (widthP p : Int) = p := by unfold widthP; omega
  obtain ⟨P, hP⟩ : ∃ P, widthP p = P := ⟨_, rfl⟩
  have hP1 : 1 ≤ P := by omega
  have hP3 : P ≤ 300 := by omega
  rw [hP] at hPp
  have shortB : ∀ {z : Dy}, Short P z → decide ((bitsN z.z.natAbs : Int) ≤ p) = true := fun h => decide_eq_true (by have := short_bits.1 h; omega)
  obtain ⟨lo, hlo⟩ : ∃ d, rndD P false x = d := ⟨_, rfl⟩
  obtain ⟨hi, hhi⟩ : ∃ d, rndD P true x = d := ⟨_, rfl⟩
  obtain ⟨mid, hmid⟩ : ∃ d, midD lo hi = d := ⟨_, rfl⟩
  obtain ⟨l1, l2⟩ := rnd_lo (P := P) (x := x) hP1
  obtain ⟨u1, u2⟩ := rnd_hi (P := P) (x := x) hP1
  rw [hlo] at l1 l2
  rw [hhi] at u1 u2
  have HLO : Hid (rndD (widthP p) (decide ((0 : Int) ≤ -1)) x = lo) := by show _ = _; rw [hP]; exact hlo
  have HHI : Hid (rndD (widthP p) (decide ((0 : Int) ≤ 1)) x = hi) := by show _ = _; rw [hP]; exact hhi
  have BL : Hid (Bnd (3 * N + 301) lo) := by rw [← hlo]; exact rnd_bnd BX.out (by omega)
  have BH : Hid (Bnd (3 * N + 301) hi) := by rw [← hhi]; exact rnd_bnd BX.out (by omega)
  have BXL : Hid (Bnd (3 * N + 301) x) := BX.out.mono (by omega)
  have BA : Bnd (12 * N + 1205) (dAdd lo hi) := BL.out.add BH.out (by omega)
  have HBM : Hid (bitsN (dAdd lo hi).z.natAbs ≤ 16777216) := bits_few BA.z (by omega)
  have hbm0 := lim_i64 BA (by omega)
  have hbm1 : -4000000000000000000 ≤ (dAdd lo hi).e - 1 := by omega
  have hbm2 : (dAdd lo hi).e - 1 ≤ 4000000000000000000 := by omega
  have hsub : IntKind.i64.wrap ((dAdd lo hi).e - 1) = (dAdd lo hi).e - 1 := wrap_i64 (by omega)
  have HMID : Hid (nrm (dAdd lo hi).z ((dAdd lo hi).e - 1) = mid) := hmid
  have BMID : Hid (Bnd (24 * N + 2411) mid) := by
    rw [← hmid]
    have := BA.lo; have := BA.hi
    exact bnd_nrm (M := 12 * N + 1206) BA.z (by omega) (by omega) (by omega)
  have BLM : Hid (Bnd (24 * N + 2411) lo) := BL.out.mono (by omega)
  have BHM : Hid (Bnd (24 * N + 2411) hi) := BH.out.mono (by omega)
  obtain ⟨kc6, hk6⟩ : ∃ k, cmpQ lo.q x.q = k := ⟨_, rfl⟩
  obtain ⟨kc7, hk7⟩ : ∃ k, cmpQ hi.q x.q = k := ⟨_, rfl⟩
  obtain ⟨kc8, hk8⟩ : ∃ k, cmpQ lo.q hi.q = k := ⟨_, rfl⟩
  obtain ⟨kc9, hk9⟩ : ∃ k, cmpQ mid.q lo.q = k := ⟨_, rfl⟩
  obtain ⟨kc10, hk10⟩ : ∃ k, cmpQ mid.q hi.q = k := ⟨_, rfl⟩
  have hk6a : kc6 ≤ 0 := by rw [← hk6]; exact cmpQ_le l1
  have hk7a : 0 ≤ kc7 := by rw [← hk7]; exact cmpQ_ge u1
  have HK6 := Lib.hid hk6
  have HK7 := Lib.hid hk7
  have HK8 := Lib.hid hk8
  have HK9 := Lib.hid hk9
  have HK10 := Lib.hid hk10
  have HSL := Lib.hid (shortB l2)
  have HSH := Lib.hid (shortB u2)
  have HK10N : Hid (decide ((bitsN mid.z.natAbs : Int) ≤ p) = true → 0 < kc9 → 0 ≤ kc10) := fun hs h9 => by
    have hs' : Short P mid := short_bits.2 (by have := of_decide_eq_true hs; omega)
    apply Int.not_lt.1
    intro hc
    have e1 : lo.q < mid.q := by
      rcases rat_tri mid.q lo.q with h | h | h
      · rw [cmpQ_lt h] at hk9; omega
      · rw [cmpQ_eq h] at hk9; omega
      · exact h
    have e2 : mid.q < hi.q := by
      rcases rat_tri mid.q hi.q with h | h | h
      · exact h
      · rw [cmpQ_eq h] at hk10; omega
      · rw [cmpQ_gt h] at hk10; omega
    rw [← hlo] at e1
    rw [← hhi] at e2
    exact no_mid hP1 hs' e1 e2
  obtain ⟨py, hpy⟩ : ∃ k, y.z.sign = k := ⟨_, rfl⟩
  obtain ⟨px, hpx⟩ : ∃ k, x.z.sign = k := ⟨_, rfl⟩
  have HPY := Lib.hid hpy
  have HPX := Lib.hid hpx
  obtain ⟨q, hq⟩ : ∃ d, quoQ P false x y = d := ⟨_, rfl⟩
  obtain ⟨r, hr⟩ : ∃ d, quoQ P true x y = d := ⟨_, rfl⟩
  obtain ⟨s, hs⟩ : ∃ d, sqrtQ P false x = d := ⟨_, rfl⟩
  obtain ⟨t, ht⟩ : ∃ d, sqrtQ P true x = d := ⟨_, rfl⟩
  have HQ : Hid (quoQ (widthP p) (decide ((0 : Int) ≤ -1)) x y = q) := by show _ = _; rw [hP]; exact hq
  have HR : Hid (quoQ (widthP p) (decide ((0 : Int) ≤ 1)) x y = r) := by show _ = _; rw [hP]; exact hr
  have HS : Hid (sqrtQ (widthP p) (decide ((0 : Int) ≤ -1)) x = s) := by show _ = _; rw [hP]; exact hs
  have HT' : Hid (sqrtQ (widthP p) (decide ((0 : Int) ≤ 1)) x = t) := by show _ = _; rw [hP]; exact ht
  have BQ : Hid (Bnd (15 * N + 2200) q) := by rw [← hq]; exact quoQ_bnd BX.out BY.out (by omega)
  have BR : Hid (Bnd (15 * N + 2200) r) := by rw [← hr]; exact quoQ_bnd BX.out BY.out (by omega)
  have BYQ : Hid (Bnd (15 * N + 2200) y) := BY.out.mono (by omega)
  have BQY : Hid (Bnd (60 * N + 8800) (dMul q y)) := BQ.out.mul BYQ.out (by omega)
  have BRY : Hid (Bnd (60 * N + 8800) (dMul r y)) := BR.out.mul BYQ.out (by omega)
  have BXQ : Hid (Bnd (60 * N + 8800) x) := BX.out.mono (by omega)
  have BS : Hid (Bnd (9 * N + 4900) s) := by rw [← hs]; exact sqrtQ_bnd BX.out (by omega)
  have BT : Hid (Bnd (9 * N + 4900) t) := by rw [← ht]; exact sqrtQ_bnd BX.out (by omega)
  have BSS : Hid (Bnd (36 * N + 19600) (dMul s s)) := BS.out.mul BS.out (by omega)
  have BTT : Hid (Bnd (36 * N + 19600) (dMul t t)) := BT.out.mul BT.out (by omega)
  have BXS : Hid (Bnd (36 * N + 19600) x) := BX.out.mono (by omega)
  obtain ⟨kc1, e1⟩ : ∃ k, cmpQ (dMul q y).q x.q = k := ⟨_, rfl⟩
  obtain ⟨kc2, e2⟩ : ∃ k, cmpQ (dMul r y).q x.q = k := ⟨_, rfl⟩
  obtain ⟨kc3, e3⟩ : ∃ k, cmpQ q.q r.q = k := ⟨_, rfl⟩
  obtain ⟨kc4, e4⟩ : ∃ k, cmpQ (dMul s s).q x.q = k := ⟨_, rfl⟩
  obtain ⟨kc5, e5⟩ : ∃ k, cmpQ (dMul t t).q x.q = k := ⟨_, rfl⟩
  obtain ⟨ps, e6⟩ : ∃ k, s.z.sign = k := ⟨_, rfl⟩
  have HQUO : Hid (0 < py → Hid (cmpQ (dMul q y).q x.q = kc1) ∧ Hid (cmpQ (dMul r y).q x.q = kc2) ∧ Hid (cmpQ q.q r.q = kc3) ∧ Hid (decide ((bitsN q.z.natAbs : Int) ≤ p) = true) ∧ Hid (decide ((bitsN r.z.natAbs : Int) ≤ p) = true) ∧ decide (0 < kc1) = false ∧ decide (kc2 < 0) = false ∧ decide (0 < kc3) = false ∧ Hid (decide (y.z ≠ 0) = true)) := fun h => by
    have hyp : 0 < y.z := by have := sign_of y.z; omega
    obtain ⟨b1, b2, b3, b4, b5⟩ := quo_law_q (P := P) (x := x) (y := y) hP1 hyp
    rw [hq] at b1 b3 b4
    rw [hr] at b2 b3 b5
    have d1 := cmpQ_le (a := (dMul q y).q) (b := x.q) (by rw [dMul_q]; exact b1)
    have d2 := cmpQ_ge (a := (dMul r y).q) (b := x.q) (by rw [dMul_q]; exact b2)
    have d3 := cmpQ_le b3
    exact ⟨e1, e2, e3, shortB b4, shortB b5, decide_eq_false (by omega), decide_eq_false (by omega), decide_eq_false (by omega), decide_eq_true (by omega)⟩
  have HSQRT : Hid (0 ≤ px → Hid (cmpQ (dMul s s).q x.q = kc4) ∧ Hid (cmpQ (dMul t t).q x.q = kc5) ∧ Hid (decide ((bitsN s.z.natAbs : Int) ≤ p) = true) ∧ Hid (decide ((bitsN t.z.natAbs : Int) ≤ p) = true) ∧ Hid (s.z.sign = ps) ∧ decide (kc4 ≤ 0) = true ∧ decide (0 ≤ kc5) = true ∧ decide (0 ≤ ps) = true ∧ Hid (decide (0 ≤ x.z) = true)) := fun h => by
    have hxp : 0 ≤ x.z := by have := sign_of x.z; omega
    obtain ⟨b1, b2, b3, b4, b5⟩ := sqrt_law_q (P := P) (x := x) hP1 hxp
    rw [hs] at b1 b3 b4
    rw [ht] at b2 b5
    have d1 := cmpQ_le (a := (dMul s s).q) (b := x.q) (by rw [dMul_q]; exact b1)
    have d2 := cmpQ_ge (a := (dMul t t).q) (b := x.q) (by rw [dMul_q]; exact b2)
    have d3 := cmpQ_ge b3
    rw [q_sign] at d3
    exact ⟨e4, e5, shortB b4, shortB b5, e6, decide_eq_true (by omega), decide_eq_true (by omega), decide_eq_true (by omega), decide_eq_true (by omega)⟩
  have HL : Hid (lightN [⟨n1, A1, L1.length, c1, x.e⟩, ⟨n2, A2, L2.length, c2, y.e⟩] = true) := by
    show _ = _
    simp only [lightN, List.all_cons, List.all_nil, NR.ok, Bool.and_true, Bool.and_eq_true, decide_eq_true_eq]
    omega
  clear hN hPp hP shortB hlo hhi hmid l1 l2 u1 u2 hk6 hk7 hk8 hk9 hk10 hpy hpx hq hr hs ht e1 e2 e3 e4 e5 e6 BA hbm0
  have hal : ∀ w : World, (Instr.alloc 51 true (.tuple #[])).run Tryd.prog w = .ok (.pointer (some ⟨w.heap.size, 0, none⟩)) (w.alloc (.cells #[.bool false, .slice none 0 0, .int .i64 0] 51)) := fun _ => by kernel_rfl
  have HAL := Lib.hid hal
  have hlv := light3_v (w := (w.alloc (.cells #[.bool n1, .slice A1 L1.length c1, .int .i64 x.e] 48)).alloc (.cells #[.bool n2, .slice A2 L2.length c2, .int .i64 y.e] 48)) [⟨n1, A1, L1.length, c1, x.e⟩, ⟨n2, A2, L2.length, c2, y.e⟩] 2 (Lib.hid rfl) (by omega)
  rw [HL.out] at hlv
  simp only [flatN, List.flatMap_cons, List.flatMap_nil, List.cons_append, List.nil_append, World.size_alloc] at hlv
  have hk := ((KB.start w).new 48 [.bool n1, .slice A1 L1.length c1, .int .i64 x.e]).new 48 [.bool n2, .slice A2 L2.length c2, .int .i64 y.e]
  simp only [World.size_alloc] at hk
  have HK := Lib.hid hk
  have HLV := Lib.hid hlv
  replace H1 := Lib.hid (H1.out.only hk.only)
  replace H2 := Lib.hid (H2.out.only hk.only)
  clear hlv hk hal HL
  go_enter Tryd.func7, Tryd.ntmps7
  go_wp2_with fail
  (with_reducible refine HLV.out.mono ?_)
  rintro e w1 ⟨rfl, ho⟩
  replace HK := Lib.hid (HK.out.step ho)
  replace H1 := Lib.hid (H1.out.only ho)
  replace H2 := Lib.hid (H2.out.only ho)
  clear ho HLV
  go_wp2_with fail
  (with_reducible refine (alive3_any _ (Lib.hid (htab.out.only HK.out.only)) (Lib.hid (hT.out.keep HK.out.only))).mono ?_)
  rintro e wq ⟨rfl, ho⟩
  replace HK := Lib.hid (HK.out.step ho)
  replace H1 := Lib.hid (H1.out.only ho)
  replace H2 := Lib.hid (H2.out.only ho)
  clear ho
  go_upto_region 3 with fail
  have hal := HAL.out
  apply wp_region_typed_tail3 6 [4, 5] 51 #[.bool false, .slice none 0 0, .int .i64 0] (by kernel_rfl) (by kernel_rfl) hal (by kernel_rfl) [isV _, isDV x, isV _, isDV y, isPtr wq 51 [.bool false, .slice none 0 0, .int .i64 0], isPtr wq 51 [.bool false, .slice none 0 0, .int .i64 0]] [[], [0], [], [2], [], []] (by kernel_rfl) (by kernel_rfl) (by kernel_rfl)
  case ho =>
    simp only [List.take_succ_cons, List.take_zero]
    refine owes2_cons (fun wx hox => ?_) ?_
    · skip
      have hk := HK.out.step hox
      obtain ⟨i0, i1, i2, -, -, -⟩ := hk.c3 1 rfl
      obtain ⟨j0, j1, j2, -, -, -⟩ := hk.c3 0 rfl
      clear hk
      refine withs_plain rfl ?_
      simp only [withs, List.getElem?_cons_zero, List.getElem?_cons_succ, Option.bind, Option.getD]
      repeat (first | (with_reducible refine all_isV ?_) | (with_reducible refine all_isWC ?_; intro sx Ax kx cx hvx hwx) | (with_reducible refine all_isNR ?_; intro Ax kx cx hvx) | (with_reducible refine all_isNV ?_; intro Ax kx cx hvx) | (with_reducible refine all_isDV ?_; intro sx Ax kx cx hvx) | (with_reducible refine all_isWV ?_; intro sx Ax kx cx hvx) | (with_reducible refine all_isD ?_; intro sx Ax kx cx hvx hwx) | (with_reducible refine all_isRow ?_; intro gx' hbx) | (with_reducible refine all_isPtr ?_; intro gp' hbp hgp) | (with_reducible refine all_isRow1 ?_; intro gx' sr Ar kr cr hbx hvr))
      go_simp
      exact ⟨Only.refl _ _, isV.self _ _⟩
    refine owes2_cons (fun wx hox => ?_) ?_
    · skip
      have hk := HK.out.step hox
      obtain ⟨i0, i1, i2, -, -, -⟩ := hk.c3 1 rfl
      obtain ⟨j0, j1, j2, -, -, -⟩ := hk.c3 0 rfl
      clear hk
      refine withs_plain rfl ?_
      simp only [withs, List.getElem?_cons_zero, List.getElem?_cons_succ, Option.bind, Option.getD]
      repeat (first | (with_reducible refine all_isV ?_) | (with_reducible refine all_isWC ?_; intro sx Ax kx cx hvx hwx) | (with_reducible refine all_isNR ?_; intro Ax kx cx hvx) | (with_reducible refine all_isNV ?_; intro Ax kx cx hvx) | (with_reducible refine all_isDV ?_; intro sx Ax kx cx hvx) | (with_reducible refine all_isWV ?_; intro sx Ax kx cx hvx) | (with_reducible refine all_isD ?_; intro sx Ax kx cx hvx hwx) | (with_reducible refine all_isRow ?_; intro gx' hbx) | (with_reducible refine all_isPtr ?_; intro gp' hbp hgp) | (with_reducible refine all_isRow1 ?_; intro gx' sr Ar kr cr hbx hvr))
      go_simp
      (with_reducible exact grow_dv (numOfV_any n1 A1 L1 c1 x _ HZ1.out (Lib.hid (H1.out.only hox)) hl1))
    refine owes2_cons (fun wx hox => ?_) ?_
    · skip
      have hk := HK.out.step hox
      obtain ⟨i0, i1, i2, -, -, -⟩ := hk.c3 1 rfl
      obtain ⟨j0, j1, j2, -, -, -⟩ := hk.c3 0 rfl
      clear hk
      refine withs_plain rfl ?_
      simp only [withs, List.getElem?_cons_zero, List.getElem?_cons_succ, Option.bind, Option.getD]
      repeat (first | (with_reducible refine all_isV ?_) | (with_reducible refine all_isWC ?_; intro sx Ax kx cx hvx hwx) | (with_reducible refine all_isNR ?_; intro Ax kx cx hvx) | (with_reducible refine all_isNV ?_; intro Ax kx cx hvx) | (with_reducible refine all_isDV ?_; intro sx Ax kx cx hvx) | (with_reducible refine all_isWV ?_; intro sx Ax kx cx hvx) | (with_reducible refine all_isD ?_; intro sx Ax kx cx hvx hwx) | (with_reducible refine all_isRow ?_; intro gx' hbx) | (with_reducible refine all_isPtr ?_; intro gp' hbp hgp) | (with_reducible refine all_isRow1 ?_; intro gx' sr Ar kr cr hbx hvr))
      go_simp
      exact ⟨Only.refl _ _, isV.self _ _⟩
    refine owes2_cons (fun wx hox => ?_) ?_
    · skip
      have hk := HK.out.step hox
      obtain ⟨i0, i1, i2, -, -, -⟩ := hk.c3 1 rfl
      obtain ⟨j0, j1, j2, -, -, -⟩ := hk.c3 0 rfl
      clear hk
      refine withs_plain rfl ?_
      simp only [withs, List.getElem?_cons_zero, List.getElem?_cons_succ, Option.bind, Option.getD]
      repeat (first | (with_reducible refine all_isV ?_) | (with_reducible refine all_isWC ?_; intro sx Ax kx cx hvx hwx) | (with_reducible refine all_isNR ?_; intro Ax kx cx hvx) | (with_reducible refine all_isNV ?_; intro Ax kx cx hvx) | (with_reducible refine all_isDV ?_; intro sx Ax kx cx hvx) | (with_reducible refine all_isWV ?_; intro sx Ax kx cx hvx) | (with_reducible refine all_isD ?_; intro sx Ax kx cx hvx hwx) | (with_reducible refine all_isRow ?_; intro gx' hbx) | (with_reducible refine all_isPtr ?_; intro gp' hbp hgp) | (with_reducible refine all_isRow1 ?_; intro gx' sr Ar kr cr hbx hvr))
      go_simp
      (with_reducible exact grow_dv (numOfV_any n2 A2 L2 c2 y _ HZ2.out (Lib.hid (H2.out.only hox)) hl2))
    refine owes2_cons (fun wx hox => ?_) ?_
    · skip
      have hk := HK.out.step hox
      obtain ⟨i0, i1, i2, -, -, -⟩ := hk.c3 1 rfl
      obtain ⟨j0, j1, j2, -, -, -⟩ := hk.c3 0 rfl
      clear hk
      refine withs_plain rfl ?_
      simp only [withs, List.getElem?_cons_zero, List.getElem?_cons_succ, Option.bind, Option.getD]
      repeat (first | (with_reducible refine all_isV ?_) | (with_reducible refine all_isWC ?_; intro sx Ax kx cx hvx hwx) | (with_reducible refine all_isNR ?_; intro Ax kx cx hvx) | (with_reducible refine all_isNV ?_; intro Ax kx cx hvx) | (with_reducible refine all_isDV ?_; intro sx Ax kx cx hvx) | (with_reducible refine all_isWV ?_; intro sx Ax kx cx hvx) | (with_reducible refine all_isD ?_; intro sx Ax kx cx hvx hwx) | (with_reducible refine all_isRow ?_; intro gx' hbx) | (with_reducible refine all_isPtr ?_; intro gp' hbp hgp) | (with_reducible refine all_isRow1 ?_; intro gx' sr Ar kr cr hbx hvr))
      go_simp
      (exact isPtr.new hox _ _)
    refine owes2_cons (fun wx hox => ?_) ?_
    · skip
      have hk := HK.out.step hox
      obtain ⟨i0, i1, i2, -, -, -⟩ := hk.c3 1 rfl
      obtain ⟨j0, j1, j2, -, -, -⟩ := hk.c3 0 rfl
      clear hk
      refine withs_plain rfl ?_
      simp only [withs, List.getElem?_cons_zero, List.getElem?_cons_succ, Option.bind, Option.getD]
      repeat (first | (with_reducible refine all_isV ?_) | (with_reducible refine all_isWC ?_; intro sx Ax kx cx hvx hwx) | (with_reducible refine all_isNR ?_; intro Ax kx cx hvx) | (with_reducible refine all_isNV ?_; intro Ax kx cx hvx) | (with_reducible refine all_isDV ?_; intro sx Ax kx cx hvx) | (with_reducible refine all_isWV ?_; intro sx Ax kx cx hvx) | (with_reducible refine all_isD ?_; intro sx Ax kx cx hvx hwx) | (with_reducible refine all_isRow ?_; intro gx' hbx) | (with_reducible refine all_isPtr ?_; intro gp' hbp hgp) | (with_reducible refine all_isRow1 ?_; intro gx' sr Ar kr cr hbx hvr))
      go_simp
      (exact isPtr.new hox _ _)
    exact owes2_nil
  case he =>
    simp only [List.drop_succ_cons, List.drop_zero]
    intro wx hox
    refine withs_of (by simp only [List.length, List.range, List.range.loop]; exact rfl) ?_
    simp only [withs, List.getElem?_cons_zero, List.getElem?_cons_succ, Option.bind, Option.getD]
    with_reducible refine all_isV ?_
    with_reducible refine all_isDV ?_
    intro s1 A1 k1 c1 hv1
    with_reducible refine all_isV ?_
    with_reducible refine all_isDV ?_
    intro s3 A3 k3 c3 hv3
    with_reducible refine all_isPtr ?_
    intro g4 hb4 hg4
    with_reducible refine all_isPtr ?_
    intro g5 hb5 hg5
    go_simp
    intro hap
    have nab : ¬ g4 = g5 := fun hc => hap 4 (by decide) 5 (by decide) (by decide) 7 8 rfl rfl (by rw [hc]; rfl)
    have mab : ¬ g5 = g4 := fun hc => nab hc.symm
    clear hap
    have bla := hb4.out
    have blb := hb5.out
    have q40 := bla.cell 0
    have q41 := bla.cell 1
    have q42 := bla.cell 2
    have q50 := blb.cell 0
    have q51 := blb.cell 1
    have q52 := blb.cell 2
    have f40 := bla.frozen 0
    have f41 := bla.frozen 1
    have f42 := bla.frozen 2
    have f50 := blb.frozen 0
    have f51 := blb.frozen 1
    have f52 := blb.frozen 2
    simp only [List.getElem?_cons_zero, List.getElem?_cons_succ] at q40 q41 q42 q50 q51 q52
    have hsz := HK.out.only.size
    have he0 : DB w wx [] := (DB.start w).step (HK.out.only.nil_trans hox)
    have he1 := he0.adopt bla ⟨_, _, _, rfl⟩ (noLimb3 _ _ _ _ _) (Nat.le_trans hsz hg4.out) (fun i y h => by simp at h) hv1.out
    have he2 := he1.adopt (blb.set3 mab) ⟨_, _, _, rfl⟩ (noLimb3 _ _ _ _ _) (Nat.le_trans hsz hg5.out) (fun i y h => by
      rcases i with _ | i
      · obtain rfl := (Option.some.inj h).symm; exact nab
      · simp at h) (hv3.out.set3 bla (noLimb3 _ _ _ _ _))
    have HE := Lib.hid he2
    clear he0 he1 he2 bla blb hb4 hb5 hv1 hv3 hox HK H1 H2 hsz
    go_upto_region 4 with fail
    clear q40 q41 q42 q50 q51 q52 f40 f41 f42 f50 f51 f52 nab mab hg4 hg5
    generalize (((((wx.setCell _ _).setCell _ _).setCell _ _).setCell _ _).setCell _ _).setCell _ _ = wv at *
    have hal := HAL.out
    apply wp_region_typed_tail3 8 [6, 7] 51 #[.bool false, .slice none 0 0, .int .i64 0] (by kernel_rfl) (by kernel_rfl) hal (by kernel_rfl) [isV _, isV _, isD lo, isV _, isV _, isD hi, isPtr wv 51 [.bool false, .slice none 0 0, .int .i64 0], isPtr wv 51 [.bool false, .slice none 0 0, .int .i64 0]] [[], [], [0, 1], [], [], [3, 4], [], []] (by kernel_rfl) (by kernel_rfl) (by kernel_rfl)
    case ho =>
      simp only [List.take_succ_cons, List.take_zero]
      refine owes2_cons (fun wx hox => ?_) ?_
      · skip
        have he := Lib.hid (HE.out.step hox)
        have htx := Lib.hid (hT.out.keep he.out.only)
        obtain ⟨i0, i1, i2, -, -, -⟩ := DB.cells he 1 rfl
        have ivx := DB.iv he 1 rfl
        clear he
        refine withs_plain rfl ?_
        simp only [withs, List.getElem?_cons_zero, List.getElem?_cons_succ, Option.bind, Option.getD]
        repeat (first | (with_reducible refine all_isV ?_) | (with_reducible refine all_isWC ?_; intro sx Ax kx cx hvx hwx) | (with_reducible refine all_isNR ?_; intro Ax kx cx hvx) | (with_reducible refine all_isNV ?_; intro Ax kx cx hvx) | (with_reducible refine all_isDV ?_; intro sx Ax kx cx hvx) | (with_reducible refine all_isWV ?_; intro sx Ax kx cx hvx) | (with_reducible refine all_isD ?_; intro sx Ax kx cx hvx hwx) | (with_reducible refine all_isRow ?_; intro gx' hbx) | (with_reducible refine all_isPtr ?_; intro gp' hbp hgp) | (with_reducible refine all_isRow1 ?_; intro gx' sr Ar kr cr hbx hvr))
        go_simp
        exact ⟨Only.refl _ _, isV.self _ _⟩
      refine owes2_cons (fun wx hox => ?_) ?_
      · skip
        skip
        refine withs_plain rfl ?_
        simp only [withs, List.getElem?_cons_zero, List.getElem?_cons_succ, Option.bind, Option.getD]
        repeat (first | (with_reducible refine all_isV ?_) | (with_reducible refine all_isWC ?_; intro sx Ax kx cx hvx hwx) | (with_reducible refine all_isNR ?_; intro Ax kx cx hvx) | (with_reducible refine all_isNV ?_; intro Ax kx cx hvx) | (with_reducible refine all_isDV ?_; intro sx Ax kx cx hvx) | (with_reducible refine all_isWV ?_; intro sx Ax kx cx hvx) | (with_reducible refine all_isD ?_; intro sx Ax kx cx hvx hwx) | (with_reducible refine all_isRow ?_; intro gx' hbx) | (with_reducible refine all_isPtr ?_; intro gp' hbp hgp) | (with_reducible refine all_isRow1 ?_; intro gx' sr Ar kr cr hbx hvr))
        go_simp
        exact ⟨Only.refl _ _, isV.self _ _⟩
      refine owes2_cons (fun wx hox => ?_) ?_
      · skip
        have he := Lib.hid (HE.out.step hox)
        have htx := Lib.hid (hT.out.keep he.out.only)
        obtain ⟨i0, i1, i2, -, -, -⟩ := DB.cells he 1 rfl
        have ivx := DB.iv he 1 rfl
        clear he
        refine withs_plain rfl ?_
        simp only [withs, List.getElem?_cons_zero, List.getElem?_cons_succ, Option.bind, Option.getD]
        repeat (first | (with_reducible refine all_isV ?_) | (with_reducible refine all_isWC ?_; intro sx Ax kx cx hvx hwx) | (with_reducible refine all_isNR ?_; intro Ax kx cx hvx) | (with_reducible refine all_isNV ?_; intro Ax kx cx hvx) | (with_reducible refine all_isDV ?_; intro sx Ax kx cx hvx) | (with_reducible refine all_isWV ?_; intro sx Ax kx cx hvx) | (with_reducible refine all_isD ?_; intro sx Ax kx cx hvx hwx) | (with_reducible refine all_isRow ?_; intro gx' hbx) | (with_reducible refine all_isPtr ?_; intro gp' hbp hgp) | (with_reducible refine all_isRow1 ?_; intro gx' sr Ar kr cr hbx hvr))
        go_simp
        (with_reducible exact grow_d (roundV_d p (-1) lo HLO.out (DV.of (by assumption)) BX (by omega) htx))
      refine owes2_cons (fun wx hox => ?_) ?_
      · skip
        have he := Lib.hid (HE.out.step hox)
        have htx := Lib.hid (hT.out.keep he.out.only)
        obtain ⟨i0, i1, i2, -, -, -⟩ := DB.cells he 1 rfl
        have ivx := DB.iv he 1 rfl
        clear he
        refine withs_plain rfl ?_
        simp only [withs, List.getElem?_cons_zero, List.getElem?_cons_succ, Option.bind, Option.getD]
        repeat (first | (with_reducible refine all_isV ?_) | (with_reducible refine all_isWC ?_; intro sx Ax kx cx hvx hwx) | (with_reducible refine all_isNR ?_; intro Ax kx cx hvx) | (with_reducible refine all_isNV ?_; intro Ax kx cx hvx) | (with_reducible refine all_isDV ?_; intro sx Ax kx cx hvx) | (with_reducible refine all_isWV ?_; intro sx Ax kx cx hvx) | (with_reducible refine all_isD ?_; intro sx Ax kx cx hvx hwx) | (with_reducible refine all_isRow ?_; intro gx' hbx) | (with_reducible refine all_isPtr ?_; intro gp' hbp hgp) | (with_reducible refine all_isRow1 ?_; intro gx' sr Ar kr cr hbx hvr))
        go_simp
        exact ⟨Only.refl _ _, isV.self _ _⟩
      refine owes2_cons (fun wx hox => ?_) ?_
      · skip
        skip
        refine withs_plain rfl ?_
        simp only [withs, List.getElem?_cons_zero, List.getElem?_cons_succ, Option.bind, Option.getD]
        repeat (first | (with_reducible refine all_isV ?_) | (with_reducible refine all_isWC ?_; intro sx Ax kx cx hvx hwx) | (with_reducible refine all_isNR ?_; intro Ax kx cx hvx) | (with_reducible refine all_isNV ?_; intro Ax kx cx hvx) | (with_reducible refine all_isDV ?_; intro sx Ax kx cx hvx) | (with_reducible refine all_isWV ?_; intro sx Ax kx cx hvx) | (with_reducible refine all_isD ?_; intro sx Ax kx cx hvx hwx) | (with_reducible refine all_isRow ?_; intro gx' hbx) | (with_reducible refine all_isPtr ?_; intro gp' hbp hgp) | (with_reducible refine all_isRow1 ?_; intro gx' sr Ar kr cr hbx hvr))
        go_simp
        exact ⟨Only.refl _ _, isV.self _ _⟩
      refine owes2_cons (fun wx hox => ?_) ?_
      · skip
        have he := Lib.hid (HE.out.step hox)
        have htx := Lib.hid (hT.out.keep he.out.only)
        obtain ⟨i0, i1, i2, -, -, -⟩ := DB.cells he 1 rfl
        have ivx := DB.iv he 1 rfl
        clear he
        refine withs_plain rfl ?_
        simp only [withs, List.getElem?_cons_zero, List.getElem?_cons_succ, Option.bind, Option.getD]
        repeat (first | (with_reducible refine all_isV ?_) | (with_reducible refine all_isWC ?_; intro sx Ax kx cx hvx hwx) | (with_reducible refine all_isNR ?_; intro Ax kx cx hvx) | (with_reducible refine all_isNV ?_; intro Ax kx cx hvx) | (with_reducible refine all_isDV ?_; intro sx Ax kx cx hvx) | (with_reducible refine all_isWV ?_; intro sx Ax kx cx hvx) | (with_reducible refine all_isD ?_; intro sx Ax kx cx hvx hwx) | (with_reducible refine all_isRow ?_; intro gx' hbx) | (with_reducible refine all_isPtr ?_; intro gp' hbp hgp) | (with_reducible refine all_isRow1 ?_; intro gx' sr Ar kr cr hbx hvr))
        go_simp
        (with_reducible exact grow_d (roundV_d p 1 hi HHI.out (DV.of (by assumption)) BX (by omega) htx))
      refine owes2_cons (fun wx hox => ?_) ?_
      · skip
        have he := Lib.hid (HE.out.step hox)
        have htx := Lib.hid (hT.out.keep he.out.only)
        obtain ⟨i0, i1, i2, -, -, -⟩ := DB.cells he 1 rfl
        have ivx := DB.iv he 1 rfl
        clear he
        refine withs_plain rfl ?_
        simp only [withs, List.getElem?_cons_zero, List.getElem?_cons_succ, Option.bind, Option.getD]
        repeat (first | (with_reducible refine all_isV ?_) | (with_reducible refine all_isWC ?_; intro sx Ax kx cx hvx hwx) | (with_reducible refine all_isNR ?_; intro Ax kx cx hvx) | (with_reducible refine all_isNV ?_; intro Ax kx cx hvx) | (with_reducible refine all_isDV ?_; intro sx Ax kx cx hvx) | (with_reducible refine all_isWV ?_; intro sx Ax kx cx hvx) | (with_reducible refine all_isD ?_; intro sx Ax kx cx hvx hwx) | (with_reducible refine all_isRow ?_; intro gx' hbx) | (with_reducible refine all_isPtr ?_; intro gp' hbp hgp) | (with_reducible refine all_isRow1 ?_; intro gx' sr Ar kr cr hbx hvr))
        go_simp
        (exact isPtr.new hox _ _)
      refine owes2_cons (fun wx hox => ?_) ?_
      · skip
        have he := Lib.hid (HE.out.step hox)
        have htx := Lib.hid (hT.out.keep he.out.only)
        obtain ⟨i0, i1, i2, -, -, -⟩ := DB.cells he 1 rfl
        have ivx := DB.iv he 1 rfl
        clear he
        refine withs_plain rfl ?_
        simp only [withs, List.getElem?_cons_zero, List.getElem?_cons_succ, Option.bind, Option.getD]
        repeat (first | (with_reducible refine all_isV ?_) | (with_reducible refine all_isWC ?_; intro sx Ax kx cx hvx hwx) | (with_reducible refine all_isNR ?_; intro Ax kx cx hvx) | (with_reducible refine all_isNV ?_; intro Ax kx cx hvx) | (with_reducible refine all_isDV ?_; intro sx Ax kx cx hvx) | (with_reducible refine all_isWV ?_; intro sx Ax kx cx hvx) | (with_reducible refine all_isD ?_; intro sx Ax kx cx hvx hwx) | (with_reducible refine all_isRow ?_; intro gx' hbx) | (with_reducible refine all_isPtr ?_; intro gp' hbp hgp) | (with_reducible refine all_isRow1 ?_; intro gx' sr Ar kr cr hbx hvr))
        go_simp
        (exact isPtr.new hox _ _)
      exact owes2_nil
    case he =>
      simp only [List.drop_succ_cons, List.drop_zero]
      intro wx hox
      refine withs_of (by simp only [List.length, List.range, List.range.loop]; exact rfl) ?_
      simp only [withs, List.getElem?_cons_zero, List.getElem?_cons_succ, Option.bind, Option.getD]
      with_reducible refine all_isV ?_
      with_reducible refine all_isV ?_
      with_reducible refine all_isD ?_
      intro s2 A2 k2 c2 hv2 hw2
      with_reducible refine all_isV ?_
      with_reducible refine all_isV ?_
      with_reducible refine all_isD ?_
      intro s5 A5 k5 c5 hv5 hw5
      with_reducible refine all_isPtr ?_
      intro g6 hb6 hg6
      with_reducible refine all_isPtr ?_
      intro g7 hb7 hg7
      go_simp
      intro hap
      have nab : ¬ g6 = g7 := fun hc => hap 6 (by decide) 7 (by decide) (by decide) 9 10 rfl rfl (by rw [hc]; rfl)
      have mab : ¬ g7 = g6 := fun hc => nab hc.symm
      clear hap
      have bla := hb6.out
      have blb := hb7.out
      have q40 := bla.cell 0
      have q41 := bla.cell 1
      have q42 := bla.cell 2
      have q50 := blb.cell 0
      have q51 := blb.cell 1
      have q52 := blb.cell 2
      have f40 := bla.frozen 0
      have f41 := bla.frozen 1
      have f42 := bla.frozen 2
      have f50 := blb.frozen 0
      have f51 := blb.frozen 1
      have f52 := blb.frozen 2
      simp only [List.getElem?_cons_zero, List.getElem?_cons_succ] at q40 q41 q42 q50 q51 q52
      have hsz := HE.out.only.size
      have he0 := HE.out.step hox
      have hlt : ∀ (i : Nat) (y : DX), [_, _][i]? = some y → y.g < wv.heap.size := fun i y h => (HE.out.all i y h).1.lt
      have he1 := he0.adopt bla ⟨_, _, _, rfl⟩ (noLimb3 _ _ _ _ _) (Nat.le_trans hsz hg6.out) (fun i y h hc => by have h1 := hlt i y h; have h2 := hg6.out; omega) hv2.out
      have he2 := he1.adopt (blb.set3 mab) ⟨_, _, _, rfl⟩ (noLimb3 _ _ _ _ _) (Nat.le_trans hsz hg7.out) (fun i y h => by
        rcases i with _ | i
        · obtain rfl := (Option.some.inj h).symm; exact nab
        · intro hc
          have h1 := hlt i y h
          have h2 := hg7.out
          omega) (hv5.out.set3 bla (noLimb3 _ _ _ _ _))
      replace HE := Lib.hid he2
      clear he0 he1 he2 bla blb hb6 hb7 hv2 hv5 hw2 hw5 hox hsz hlt
      go_upto_region 5 with fail
      clear q40 q41 q42 q50 q51 q52 f40 f41 f42 f50 f51 f52 nab mab hg6 hg7
      generalize (((((wx.setCell _ _).setCell _ _).setCell _ _).setCell _ _).setCell _ _).setCell _ _ = wt at *
      obtain ⟨i0, i1, i2, -, -, -⟩ := DB.cells HE 1 rfl
      obtain ⟨j0, j1, j2, -, -, -⟩ := DB.cells HE 3 rfl
      go_wp2_with fail
      (with_reducible refine (cmpV_d kc6 (DB.dv HE 1 rfl) (DB.dv HE 3 rfl) BL BXL (by omega) HK6.out).mono ?_)
      rintro e w5 ⟨rfl, ho⟩
      replace HE := Lib.hid (HE.out.step ho)
      try replace HT5 := Lib.hid (HT5.out.nil_trans ho)
      clear ho
      clear i0 i1 i2 j0 j1 j2
      obtain ⟨i0, i1, i2, -, -, -⟩ := DB.cells HE 0 rfl
      obtain ⟨j0, j1, j2, -, -, -⟩ := DB.cells HE 3 rfl
      go_wp2_with fail
      (with_reducible refine (cmpV_d kc7 (DB.dv HE 0 rfl) (DB.dv HE 3 rfl) BH BXL (by omega) HK7.out).mono ?_)
      rintro e w5 ⟨rfl, ho⟩
      replace HE := Lib.hid (HE.out.step ho)
      try replace HT5 := Lib.hid (HT5.out.nil_trans ho)
      clear ho
      clear i0 i1 i2 j0 j1 j2
      obtain ⟨i0, i1, i2, -, -, -⟩ := DB.cells HE 1 rfl
      go_wp2_with fail
      (with_reducible refine (short3V_any p true (DB.dv HE 1 rfl) HSL.out).mono ?_)
      rintro e w5 ⟨rfl, ho⟩
      replace HE := Lib.hid (HE.out.step ho)
      try replace HT5 := Lib.hid (HT5.out.nil_trans ho)
      clear ho
      clear i0 i1 i2
      obtain ⟨i0, i1, i2, -, -, -⟩ := DB.cells HE 0 rfl
      go_wp2_with fail
      (with_reducible refine (short3V_any p true (DB.dv HE 0 rfl) HSH.out).mono ?_)
      rintro e w5 ⟨rfl, ho⟩
      replace HE := Lib.hid (HE.out.step ho)
      try replace HT5 := Lib.hid (HT5.out.nil_trans ho)
      clear ho
      clear i0 i1 i2
      obtain ⟨i0, i1, i2, -, -, -⟩ := DB.cells HE 1 rfl
      obtain ⟨j0, j1, j2, -, -, -⟩ := DB.cells HE 0 rfl
      go_wp2_with fail
      (with_reducible refine (cmpV_d kc8 (DB.dv HE 1 rfl) (DB.dv HE 0 rfl) BL BH (by omega) HK8.out).mono ?_)
      rintro e w5 ⟨rfl, ho⟩
      replace HE := Lib.hid (HE.out.step ho)
      try replace HT5 := Lib.hid (HT5.out.nil_trans ho)
      clear ho
      clear i0 i1 i2 j0 j1 j2
      go_upto_if 73 with fail
      have HT5 := Lib.hid (Only.refl [] w5)
      have HEs := HE
      go_cut [11] (fun _ wx => Only [] w5 wx)
      case first =>
        by_cases hk8 : kc8 = 0
        · have hk8b : (kc8 != 0) = false := by rw [hk8]; rfl
          clear hk8
          go_wp2_with fail
          go_meet
          exact HT5.out
        · have hk8b : (kc8 != 0) = true := by simpa using hk8
          clear hk8
          go_upto_region 8 with fail
          apply wp_region_typed_tail2 11 (by kernel_rfl) [isV _, isV _, isD (dAdd lo hi), isWV (dAdd lo hi).z, isV _, isV _, isD (dAdd lo hi), isV _, isV _, isD mid, isPtr w5 51 [.bool false, .slice none 0 0, .int .i64 0]] [[], [], [0, 1], [2], [], [], [4, 5], [6], [7], [3, 8], []] (by kernel_rfl) (by kernel_rfl) (by kernel_rfl)
          case ho =>
            simp only [List.take_succ_cons, List.take_zero]
            refine owes2_cons (fun wx hox => ?_) ?_
            · skip
              have he := Lib.hid (HE.out.step hox)
              have htx := Lib.hid (hT.out.keep he.out.only)
              obtain ⟨i0, i1, i2, -, -, -⟩ := DB.cells he 1 rfl
              have ivl := DB.iv he 1 rfl
              obtain ⟨j0, j1, j2, -, -, -⟩ := DB.cells he 0 rfl
              have ivh := DB.iv he 0 rfl
              clear he
              refine withs_plain rfl ?_
              simp only [withs, List.getElem?_cons_zero, List.getElem?_cons_succ, Option.bind, Option.getD]
              repeat (first | (with_reducible refine all_isV ?_) | (with_reducible refine all_isWC ?_; intro sx Ax kx cx hvx hwx) | (with_reducible refine all_isNR ?_; intro Ax kx cx hvx) | (with_reducible refine all_isNV ?_; intro Ax kx cx hvx) | (with_reducible refine all_isDV ?_; intro sx Ax kx cx hvx) | (with_reducible refine all_isWV ?_; intro sx Ax kx cx hvx) | (with_reducible refine all_isD ?_; intro sx Ax kx cx hvx hwx) | (with_reducible refine all_isRow ?_; intro gx' hbx) | (with_reducible refine all_isPtr ?_; intro gp' hbp hgp) | (with_reducible refine all_isRow1 ?_; intro gx' sr Ar kr cr hbx hvr))
              go_simp
              exact ⟨Only.refl _ _, isV.self _ _⟩
            refine owes2_cons (fun wx hox => ?_) ?_
            · skip
              have he := Lib.hid (HE.out.step hox)
              have htx := Lib.hid (hT.out.keep he.out.only)
              obtain ⟨i0, i1, i2, -, -, -⟩ := DB.cells he 1 rfl
              have ivl := DB.iv he 1 rfl
              obtain ⟨j0, j1, j2, -, -, -⟩ := DB.cells he 0 rfl
              have ivh := DB.iv he 0 rfl
              clear he
              refine withs_plain rfl ?_
              simp only [withs, List.getElem?_cons_zero, List.getElem?_cons_succ, Option.bind, Option.getD]
              repeat (first | (with_reducible refine all_isV ?_) | (with_reducible refine all_isWC ?_; intro sx Ax kx cx hvx hwx) | (with_reducible refine all_isNR ?_; intro Ax kx cx hvx) | (with_reducible refine all_isNV ?_; intro Ax kx cx hvx) | (with_reducible refine all_isDV ?_; intro sx Ax kx cx hvx) | (with_reducible refine all_isWV ?_; intro sx Ax kx cx hvx) | (with_reducible refine all_isD ?_; intro sx Ax kx cx hvx hwx) | (with_reducible refine all_isRow ?_; intro gx' hbx) | (with_reducible refine all_isPtr ?_; intro gp' hbp hgp) | (with_reducible refine all_isRow1 ?_; intro gx' sr Ar kr cr hbx hvr))
              go_simp
              exact ⟨Only.refl _ _, isV.self _ _⟩
            refine owes2_cons (fun wx hox => ?_) ?_
            · skip
              have he := Lib.hid (HE.out.step hox)
              have htx := Lib.hid (hT.out.keep he.out.only)
              obtain ⟨i0, i1, i2, -, -, -⟩ := DB.cells he 1 rfl
              have ivl := DB.iv he 1 rfl
              obtain ⟨j0, j1, j2, -, -, -⟩ := DB.cells he 0 rfl
              have ivh := DB.iv he 0 rfl
              clear he
              refine withs_plain rfl ?_
              simp only [withs, List.getElem?_cons_zero, List.getElem?_cons_succ, Option.bind, Option.getD]
              repeat (first | (with_reducible refine all_isV ?_) | (with_reducible refine all_isWC ?_; intro sx Ax kx cx hvx hwx) | (with_reducible refine all_isNR ?_; intro Ax kx cx hvx) | (with_reducible refine all_isNV ?_; intro Ax kx cx hvx) | (with_reducible refine all_isDV ?_; intro sx Ax kx cx hvx) | (with_reducible refine all_isWV ?_; intro sx Ax kx cx hvx) | (with_reducible refine all_isD ?_; intro sx Ax kx cx hvx hwx) | (with_reducible refine all_isRow ?_; intro gx' hbx) | (with_reducible refine all_isPtr ?_; intro gp' hbp hgp) | (with_reducible refine all_isRow1 ?_; intro gx' sr Ar kr cr hbx hvr))
              go_simp
              (with_reducible exact grow_d (add_d (DV.of (by assumption)) (DV.of (by assumption)) BL BH (by omega) htx))
            refine owes2_cons (fun wx hox => ?_) ?_
            · skip
              have he := Lib.hid (HE.out.step hox)
              have htx := Lib.hid (hT.out.keep he.out.only)
              obtain ⟨i0, i1, i2, -, -, -⟩ := DB.cells he 1 rfl
              have ivl := DB.iv he 1 rfl
              obtain ⟨j0, j1, j2, -, -, -⟩ := DB.cells he 0 rfl
              have ivh := DB.iv he 0 rfl
              clear he
              refine withs_plain rfl ?_
              simp only [withs, List.getElem?_cons_zero, List.getElem?_cons_succ, Option.bind, Option.getD]
              repeat (first | (with_reducible refine all_isV ?_) | (with_reducible refine all_isWC ?_; intro sx Ax kx cx hvx hwx) | (with_reducible refine all_isNR ?_; intro Ax kx cx hvx) | (with_reducible refine all_isNV ?_; intro Ax kx cx hvx) | (with_reducible refine all_isDV ?_; intro sx Ax kx cx hvx) | (with_reducible refine all_isWV ?_; intro sx Ax kx cx hvx) | (with_reducible refine all_isD ?_; intro sx Ax kx cx hvx hwx) | (with_reducible refine all_isRow ?_; intro gx' hbx) | (with_reducible refine all_isPtr ?_; intro gp' hbp hgp) | (with_reducible refine all_isRow1 ?_; intro gx' sr Ar kr cr hbx hvr))
              go_simp
              (exact ⟨Only.refl _ _, _, _, _, _, rfl, hvx.out⟩)
            refine owes2_cons (fun wx hox => ?_) ?_
            · skip
              have he := Lib.hid (HE.out.step hox)
              have htx := Lib.hid (hT.out.keep he.out.only)
              obtain ⟨i0, i1, i2, -, -, -⟩ := DB.cells he 1 rfl
              have ivl := DB.iv he 1 rfl
              obtain ⟨j0, j1, j2, -, -, -⟩ := DB.cells he 0 rfl
              have ivh := DB.iv he 0 rfl
              clear he
              refine withs_plain rfl ?_
              simp only [withs, List.getElem?_cons_zero, List.getElem?_cons_succ, Option.bind, Option.getD]
              repeat (first | (with_reducible refine all_isV ?_) | (with_reducible refine all_isWC ?_; intro sx Ax kx cx hvx hwx) | (with_reducible refine all_isNR ?_; intro Ax kx cx hvx) | (with_reducible refine all_isNV ?_; intro Ax kx cx hvx) | (with_reducible refine all_isDV ?_; intro sx Ax kx cx hvx) | (with_reducible refine all_isWV ?_; intro sx Ax kx cx hvx) | (with_reducible refine all_isD ?_; intro sx Ax kx cx hvx hwx) | (with_reducible refine all_isRow ?_; intro gx' hbx) | (with_reducible refine all_isPtr ?_; intro gp' hbp hgp) | (with_reducible refine all_isRow1 ?_; intro gx' sr Ar kr cr hbx hvr))
              go_simp
              exact ⟨Only.refl _ _, isV.self _ _⟩
            refine owes2_cons (fun wx hox => ?_) ?_
            · skip
              have he := Lib.hid (HE.out.step hox)
              have htx := Lib.hid (hT.out.keep he.out.only)
              obtain ⟨i0, i1, i2, -, -, -⟩ := DB.cells he 1 rfl
              have ivl := DB.iv he 1 rfl
              obtain ⟨j0, j1, j2, -, -, -⟩ := DB.cells he 0 rfl
              have ivh := DB.iv he 0 rfl
              clear he
              refine withs_plain rfl ?_
              simp only [withs, List.getElem?_cons_zero, List.getElem?_cons_succ, Option.bind, Option.getD]
              repeat (first | (with_reducible refine all_isV ?_) | (with_reducible refine all_isWC ?_; intro sx Ax kx cx hvx hwx) | (with_reducible refine all_isNR ?_; intro Ax kx cx hvx) | (with_reducible refine all_isNV ?_; intro Ax kx cx hvx) | (with_reducible refine all_isDV ?_; intro sx Ax kx cx hvx) | (with_reducible refine all_isWV ?_; intro sx Ax kx cx hvx) | (with_reducible refine all_isD ?_; intro sx Ax kx cx hvx hwx) | (with_reducible refine all_isRow ?_; intro gx' hbx) | (with_reducible refine all_isPtr ?_; intro gp' hbp hgp) | (with_reducible refine all_isRow1 ?_; intro gx' sr Ar kr cr hbx hvr))
              go_simp
              exact ⟨Only.refl _ _, isV.self _ _⟩
            refine owes2_cons (fun wx hox => ?_) ?_
            · skip
              have he := Lib.hid (HE.out.step hox)
              have htx := Lib.hid (hT.out.keep he.out.only)
              obtain ⟨i0, i1, i2, -, -, -⟩ := DB.cells he 1 rfl
              have ivl := DB.iv he 1 rfl
              obtain ⟨j0, j1, j2, -, -, -⟩ := DB.cells he 0 rfl
              have ivh := DB.iv he 0 rfl
              clear he
              refine withs_plain rfl ?_
              simp only [withs, List.getElem?_cons_zero, List.getElem?_cons_succ, Option.bind, Option.getD]
              repeat (first | (with_reducible refine all_isV ?_) | (with_reducible refine all_isWC ?_; intro sx Ax kx cx hvx hwx) | (with_reducible refine all_isNR ?_; intro Ax kx cx hvx) | (with_reducible refine all_isNV ?_; intro Ax kx cx hvx) | (with_reducible refine all_isDV ?_; intro sx Ax kx cx hvx) | (with_reducible refine all_isWV ?_; intro sx Ax kx cx hvx) | (with_reducible refine all_isD ?_; intro sx Ax kx cx hvx hwx) | (with_reducible refine all_isRow ?_; intro gx' hbx) | (with_reducible refine all_isPtr ?_; intro gp' hbp hgp) | (with_reducible refine all_isRow1 ?_; intro gx' sr Ar kr cr hbx hvr))
              go_simp
              (with_reducible exact grow_d (add_d (DV.of (by assumption)) (DV.of (by assumption)) BL BH (by omega) htx))
            refine owes2_cons (fun wx hox => ?_) ?_
            · skip
              skip
              refine withs_plain rfl ?_
              simp only [withs, List.getElem?_cons_zero, List.getElem?_cons_succ, Option.bind, Option.getD]
              repeat (first | (with_reducible refine all_isV ?_) | (with_reducible refine all_isWC ?_; intro sx Ax kx cx hvx hwx) | (with_reducible refine all_isNR ?_; intro Ax kx cx hvx) | (with_reducible refine all_isNV ?_; intro Ax kx cx hvx) | (with_reducible refine all_isDV ?_; intro sx Ax kx cx hvx) | (with_reducible refine all_isWV ?_; intro sx Ax kx cx hvx) | (with_reducible refine all_isD ?_; intro sx Ax kx cx hvx hwx) | (with_reducible refine all_isRow ?_; intro gx' hbx) | (with_reducible refine all_isPtr ?_; intro gp' hbp hgp) | (with_reducible refine all_isRow1 ?_; intro gx' sr Ar kr cr hbx hvr))
              go_simp
              exact ⟨Only.refl _ _, isV.self _ _⟩
            refine owes2_cons (fun wx hox => ?_) ?_
            · skip
              skip
              refine withs_plain rfl ?_
              simp only [withs, List.getElem?_cons_zero, List.getElem?_cons_succ, Option.bind, Option.getD]
              repeat (first | (with_reducible refine all_isV ?_) | (with_reducible refine all_isWC ?_; intro sx Ax kx cx hvx hwx) | (with_reducible refine all_isNR ?_; intro Ax kx cx hvx) | (with_reducible refine all_isNV ?_; intro Ax kx cx hvx) | (with_reducible refine all_isDV ?_; intro sx Ax kx cx hvx) | (with_reducible refine all_isWV ?_; intro sx Ax kx cx hvx) | (with_reducible refine all_isD ?_; intro sx Ax kx cx hvx hwx) | (with_reducible refine all_isRow ?_; intro gx' hbx) | (with_reducible refine all_isPtr ?_; intro gp' hbp hgp) | (with_reducible refine all_isRow1 ?_; intro gx' sr Ar kr cr hbx hvr))
              go_simp
              exact ⟨Only.refl _ _, isV.self _ _⟩
            refine owes2_cons (fun wx hox => ?_) ?_
            · skip
              have he := Lib.hid (HE.out.step hox)
              have htx := Lib.hid (hT.out.keep he.out.only)
              obtain ⟨i0, i1, i2, -, -, -⟩ := DB.cells he 1 rfl
              have ivl := DB.iv he 1 rfl
              obtain ⟨j0, j1, j2, -, -, -⟩ := DB.cells he 0 rfl
              have ivh := DB.iv he 0 rfl
              clear he
              refine withs_plain rfl ?_
              simp only [withs, List.getElem?_cons_zero, List.getElem?_cons_succ, Option.bind, Option.getD]
              repeat (first | (with_reducible refine all_isV ?_) | (with_reducible refine all_isWC ?_; intro sx Ax kx cx hvx hwx) | (with_reducible refine all_isNR ?_; intro Ax kx cx hvx) | (with_reducible refine all_isNV ?_; intro Ax kx cx hvx) | (with_reducible refine all_isDV ?_; intro sx Ax kx cx hvx) | (with_reducible refine all_isWV ?_; intro sx Ax kx cx hvx) | (with_reducible refine all_isD ?_; intro sx Ax kx cx hvx hwx) | (with_reducible refine all_isRow ?_; intro gx' hbx) | (with_reducible refine all_isPtr ?_; intro gp' hbp hgp) | (with_reducible refine all_isRow1 ?_; intro gx' sr Ar kr cr hbx hvr))
              go_simp
              (with_reducible exact grow_d (makeV_d mid HMID.out (by assumption) HBM hbm1 hbm2 htx))
            refine owes2_cons (fun wx hox => ?_) ?_
            · skip
              have he := Lib.hid (HE.out.step hox)
              have htx := Lib.hid (hT.out.keep he.out.only)
              obtain ⟨i0, i1, i2, -, -, -⟩ := DB.cells he 1 rfl
              have ivl := DB.iv he 1 rfl
              obtain ⟨j0, j1, j2, -, -, -⟩ := DB.cells he 0 rfl
              have ivh := DB.iv he 0 rfl
              clear he
              refine withs_plain rfl ?_
              simp only [withs, List.getElem?_cons_zero, List.getElem?_cons_succ, Option.bind, Option.getD]
              repeat (first | (with_reducible refine all_isV ?_) | (with_reducible refine all_isWC ?_; intro sx Ax kx cx hvx hwx) | (with_reducible refine all_isNR ?_; intro Ax kx cx hvx) | (with_reducible refine all_isNV ?_; intro Ax kx cx hvx) | (with_reducible refine all_isDV ?_; intro sx Ax kx cx hvx) | (with_reducible refine all_isWV ?_; intro sx Ax kx cx hvx) | (with_reducible refine all_isD ?_; intro sx Ax kx cx hvx hwx) | (with_reducible refine all_isRow ?_; intro gx' hbx) | (with_reducible refine all_isPtr ?_; intro gp' hbp hgp) | (with_reducible refine all_isRow1 ?_; intro gx' sr Ar kr cr hbx hvr))
              go_simp
              (exact isPtr.new hox _ _)
            exact owes2_nil
          case he =>
            simp only [List.drop_succ_cons, List.drop_zero]
            intro wx hox
            refine withs_of (by simp only [List.length, List.range, List.range.loop]; exact rfl) ?_
            simp only [withs, List.getElem?_cons_zero, List.getElem?_cons_succ, Option.bind, Option.getD]
            with_reducible refine all_isV ?_
            with_reducible refine all_isV ?_
            with_reducible refine all_isD ?_
            intro s2 A2 k2 c2 hv2 hw2
            with_reducible refine all_isWV ?_
            intro s3 A3 k3 c3 hv3
            with_reducible refine all_isV ?_
            with_reducible refine all_isV ?_
            with_reducible refine all_isD ?_
            intro s6 A6 k6 c6 hv6 hw6
            with_reducible refine all_isV ?_
            with_reducible refine all_isV ?_
            with_reducible refine all_isD ?_
            intro s9 A9 k9 c9 hv9 hw9
            with_reducible refine all_isPtr ?_
            intro g10 hb10 hg10
            go_simp
            have bl := hb10.out
            have q0 := bl.cell 0
            have q1 := bl.cell 1
            have q2 := bl.cell 2
            have f0 := bl.frozen 0
            have f1 := bl.frozen 1
            have f2 := bl.frozen 2
            simp only [List.getElem?_cons_zero, List.getElem?_cons_succ] at q0 q1 q2
            have he1 := (HE.out.step hox).adopt bl ⟨_, _, _, rfl⟩ (noLimb3 _ _ _ _ _) (Nat.le_trans HE.out.only.size hg10.out) (fun i y h hc => by
              have h1 := (HE.out.all i y h).1.lt
              have h2 := hg10.out
              omega) hv9.out
            replace HE := Lib.hid he1
            have hts := (((HT5.out.nil_trans hox).setCell (p := ⟨g10, 0, none⟩) (.inr hg10.out) (.bool s9)).setCell (p := ⟨g10, 1, none⟩) (.inr hg10.out) (.slice A9 k9 c9)).setCell (p := ⟨g10, 2, none⟩) (.inr hg10.out) (.int .i64 mid.e)
            replace HT5 := Lib.hid hts
            clear he1 bl hb10 hg10 hv9 hox hts
            go_upto_region 9 with fail
            clear q0 q1 q2 f0 f1 f2
            generalize ((wx.setCell _ _).setCell _ _).setCell _ _ = wu2 at *
            by_cases hsm : decide ((bitsN mid.z.natAbs : Int) ≤ p) = true
            · have HSM := Lib.hid hsm
              clear hsm
              obtain ⟨i0, i1, i2, -, -, -⟩ := DB.cells HE 0 rfl
              go_wp2_with fail
              (with_reducible refine (short3V_any p true (DB.dv HE 0 rfl) HSM.out).mono ?_)
              rintro e w5 ⟨rfl, ho⟩
              replace HE := Lib.hid (HE.out.step ho)
              try replace HT5 := Lib.hid (HT5.out.nil_trans ho)
              clear ho
              clear i0 i1 i2
              by_cases hk9 : 0 < kc9
              · have hk10 := HK10N.out HSM.out hk9
                obtain ⟨i0, i1, i2, -, -, -⟩ := DB.cells HE 0 rfl
                obtain ⟨j0, j1, j2, -, -, -⟩ := DB.cells HE 2 rfl
                go_wp2_with fail
                (with_reducible refine (cmpV_d kc9 (DB.dv HE 0 rfl) (DB.dv HE 2 rfl) BMID BLM (by omega) HK9.out).mono ?_)
                rintro e w5 ⟨rfl, ho⟩
                replace HE := Lib.hid (HE.out.step ho)
                try replace HT5 := Lib.hid (HT5.out.nil_trans ho)
                clear ho
                clear i0 i1 i2 j0 j1 j2
                obtain ⟨i0, i1, i2, -, -, -⟩ := DB.cells HE 0 rfl
                obtain ⟨j0, j1, j2, -, -, -⟩ := DB.cells HE 1 rfl
                go_wp2_with fail
                (with_reducible refine (cmpV_d kc10 (DB.dv HE 0 rfl) (DB.dv HE 1 rfl) BMID BHM (by omega) HK10.out).mono ?_)
                rintro e w5 ⟨rfl, ho⟩
                replace HE := Lib.hid (HE.out.step ho)
                try replace HT5 := Lib.hid (HT5.out.nil_trans ho)
                clear ho
                clear i0 i1 i2 j0 j1 j2
                go_wp2_with fail
                go_meet
                exact HT5.out
              · skip
                obtain ⟨i0, i1, i2, -, -, -⟩ := DB.cells HE 0 rfl
                obtain ⟨j0, j1, j2, -, -, -⟩ := DB.cells HE 2 rfl
                go_wp2_with fail
                (with_reducible refine (cmpV_d kc9 (DB.dv HE 0 rfl) (DB.dv HE 2 rfl) BMID BLM (by omega) HK9.out).mono ?_)
                rintro e w5 ⟨rfl, ho⟩
                replace HE := Lib.hid (HE.out.step ho)
                try replace HT5 := Lib.hid (HT5.out.nil_trans ho)
                clear ho
                clear i0 i1 i2 j0 j1 j2
                go_wp2_with fail
                go_meet
                exact HT5.out
            · have HSM := Lib.hid (show decide ((bitsN mid.z.natAbs : Int) ≤ p) = false by simpa using hsm)
              clear hsm
              obtain ⟨i0, i1, i2, -, -, -⟩ := DB.cells HE 0 rfl
              go_wp2_with fail
              (with_reducible refine (short3V_any p false (DB.dv HE 0 rfl) HSM.out).mono ?_)
              rintro e w5 ⟨rfl, ho⟩
              replace HE := Lib.hid (HE.out.step ho)
              try replace HT5 := Lib.hid (HT5.out.nil_trans ho)
              clear ho
              clear i0 i1 i2
              go_wp2_with fail
              go_meet
              exact HT5.out
          case hl =>
            repeat (refine List.forall_mem_cons.2 ⟨?_, ?_⟩; first | exact isV.lasts _ | exact isD.lasts _ | exact isNV.lasts _ | exact isDV.lasts _ | exact isWV.lasts _ | exact isWC.lasts _ | exact isNR.lasts _ _ | exact isWR.lasts _ _ | exact isRow.lasts _ _ _ | exact isPtr.lasts _ _ _ | exact isRow1.lasts _)
            exact fun _ h => (by cases h)
      replace HE := Lib.hid (HEs.out.step hcut)
      clear hcut HEs HT5
      obtain ⟨i0, i1, i2, -, -, -⟩ := DB.cells HE 2 rfl
      go_wp2_with fail
      (with_reducible refine (signV_d py (DB.dv HE 2 rfl) HPY.out).mono ?_)
      rintro e w5 ⟨rfl, ho⟩
      replace HE := Lib.hid (HE.out.step ho)
      try replace HT5 := Lib.hid (HT5.out.nil_trans ho)
      clear ho
      clear i0 i1 i2
      go_upto_if 101 with fail
      have HT5 := Lib.hid (Only.refl [] w5)
      have HEs := HE
      go_cut [12] (fun _ wx => Only [] w5 wx)
      case first =>
        by_cases hy0 : 0 < py
        · obtain ⟨HK1, HK2, HK3, HSQ, HSR, hk1, hk2, hk3, HYD⟩ := HQUO.out (by omega)
          obtain ⟨i0, i1, i2, -, -, -⟩ := DB.cells HE 3 rfl
          obtain ⟨j0, j1, j2, -, -, -⟩ := DB.cells HE 2 rfl
          go_wp2_with fail
          (with_reducible refine (quoV_d p (-1) q true HQ.out HYD.out (DB.dv HE 3 rfl) (DB.dv HE 2 rfl) BX BY (by omega) (Lib.hid (hT.out.keep HE.out.only))).mono ?_)
          rintro e w5 ⟨s5, A5, kk5, c5, rfl, -, -, hv, ho⟩
          replace HE := Lib.hid ((HE.out.step ho).new hv)
          try replace HT5 := Lib.hid ((HT5.out.nil_trans ho).alloc (.cells #[.bool s5, .slice A5 kk5 c5, .int .i64 q.e] 51))
          clear hv ho
          clear i0 i1 i2 j0 j1 j2
          obtain ⟨i0, i1, i2, -, -, -⟩ := DB.cells HE 4 rfl
          obtain ⟨j0, j1, j2, -, -, -⟩ := DB.cells HE 3 rfl
          go_wp2_with fail
          (with_reducible refine (quoV_d p 1 r true HR.out HYD.out (DB.dv HE 4 rfl) (DB.dv HE 3 rfl) BX BY (by omega) (Lib.hid (hT.out.keep HE.out.only))).mono ?_)
          rintro e w5 ⟨s5, A5, kk5, c5, rfl, -, -, hv, ho⟩
          replace HE := Lib.hid ((HE.out.step ho).new hv)
          try replace HT5 := Lib.hid ((HT5.out.nil_trans ho).alloc (.cells #[.bool s5, .slice A5 kk5 c5, .int .i64 r.e] 51))
          clear hv ho
          clear i0 i1 i2 j0 j1 j2
          go_upto_region 14 with fail
          apply wp_region_typed2 (by kernel_rfl) [isV _, isV _, isV _, isV _, isV _, isV _, isV _, isV _, isV _, isD (dMul q y), isV _, isV _, isV _, isV _, isV _, isV _, isV _, isD (dMul r y), isV _, isV _, isV _, isV _, isV _, isV _, isV _, isV _, isV _, isV _, isV _, isV _, isV _, isV _, isV _, isV _, isV _, isV _, isV _, isV _, isV _, isV _] [[], [0], [1], [2], [2, 3], [2, 4], [5], [6], [6], [6, 7, 8], [6], [6, 9, 10], [6, 11], [6, 12], [13], [14], [14], [14, 15, 16], [14], [14, 17, 18], [14, 19], [14, 20], [21], [22], [22], [22, 23, 24], [22, 25], [22, 26], [27], [28], [28], [28, 29, 30], [28, 31], [28, 32], [33], [34], [34], [34, 35, 36], [34, 37], [34, 38]] (by kernel_rfl) (by kernel_rfl)
          case ho =>
            refine owes2_cons (fun wx hox => ?_) ?_
            · skip
              skip
              refine withs_plain rfl ?_
              simp only [withs, List.getElem?_cons_zero, List.getElem?_cons_succ, Option.bind, Option.getD]
              repeat (first | (with_reducible refine all_isV ?_) | (with_reducible refine all_isWC ?_; intro sx Ax kx cx hvx hwx) | (with_reducible refine all_isNR ?_; intro Ax kx cx hvx) | (with_reducible refine all_isNV ?_; intro Ax kx cx hvx) | (with_reducible refine all_isDV ?_; intro sx Ax kx cx hvx) | (with_reducible refine all_isWV ?_; intro sx Ax kx cx hvx) | (with_reducible refine all_isD ?_; intro sx Ax kx cx hvx hwx) | (with_reducible refine all_isRow ?_; intro gx' hbx) | (with_reducible refine all_isPtr ?_; intro gp' hbp hgp) | (with_reducible refine all_isRow1 ?_; intro gx' sr Ar kr cr hbx hvr))
              go_simp
              exact ⟨Only.refl _ _, isV.self _ _⟩
            refine owes2_cons (fun wx hox => ?_) ?_
            · skip
              skip
              refine withs_plain rfl ?_
              simp only [withs, List.getElem?_cons_zero, List.getElem?_cons_succ, Option.bind, Option.getD]
              repeat (first | (with_reducible refine all_isV ?_) | (with_reducible refine all_isWC ?_; intro sx Ax kx cx hvx hwx) | (with_reducible refine all_isNR ?_; intro Ax kx cx hvx) | (with_reducible refine all_isNV ?_; intro Ax kx cx hvx) | (with_reducible refine all_isDV ?_; intro sx Ax kx cx hvx) | (with_reducible refine all_isWV ?_; intro sx Ax kx cx hvx) | (with_reducible refine all_isD ?_; intro sx Ax kx cx hvx hwx) | (with_reducible refine all_isRow ?_; intro gx' hbx) | (with_reducible refine all_isPtr ?_; intro gp' hbp hgp) | (with_reducible refine all_isRow1 ?_; intro gx' sr Ar kr cr hbx hvr))
              go_simp
              exact ⟨Only.refl _ _, isV.self _ _⟩
            refine owes2_cons (fun wx hox => ?_) ?_
            · skip
              skip
              refine withs_plain rfl ?_
              simp only [withs, List.getElem?_cons_zero, List.getElem?_cons_succ, Option.bind, Option.getD]
              repeat (first | (with_reducible refine all_isV ?_) | (with_reducible refine all_isWC ?_; intro sx Ax kx cx hvx hwx) | (with_reducible refine all_isNR ?_; intro Ax kx cx hvx) | (with_reducible refine all_isNV ?_; intro Ax kx cx hvx) | (with_reducible refine all_isDV ?_; intro sx Ax kx cx hvx) | (with_reducible refine all_isWV ?_; intro sx Ax kx cx hvx) | (with_reducible refine all_isD ?_; intro sx Ax kx cx hvx hwx) | (with_reducible refine all_isRow ?_; intro gx' hbx) | (with_reducible refine all_isPtr ?_; intro gp' hbp hgp) | (with_reducible refine all_isRow1 ?_; intro gx' sr Ar kr cr hbx hvr))
              go_simp
              exact ⟨Only.refl _ _, isV.self _ _⟩
            refine owes2_cons (fun wx hox => ?_) ?_
            · skip
              skip
              refine withs_guard rfl rfl ?_
              simp only [withs, List.getElem?_cons_zero, List.getElem?_cons_succ, Option.bind, Option.getD]
              repeat (first | (with_reducible refine all_isV ?_) | (with_reducible refine all_isWC ?_; intro sx Ax kx cx hvx hwx) | (with_reducible refine all_isNR ?_; intro Ax kx cx hvx) | (with_reducible refine all_isNV ?_; intro Ax kx cx hvx) | (with_reducible refine all_isDV ?_; intro sx Ax kx cx hvx) | (with_reducible refine all_isWV ?_; intro sx Ax kx cx hvx) | (with_reducible refine all_isD ?_; intro sx Ax kx cx hvx hwx) | (with_reducible refine all_isRow ?_; intro gx' hbx) | (with_reducible refine all_isPtr ?_; intro gp' hbp hgp) | (with_reducible refine all_isRow1 ?_; intro gx' sr Ar kr cr hbx hvr))
              refine ⟨by kernel_rfl, ?_⟩
              go_simp
              exact ⟨Only.refl _ _, isV.self _ _⟩
            refine owes2_cons (fun wx hox => ?_) ?_
            · skip
              skip
              refine withs_guard rfl rfl ?_
              simp only [withs, List.getElem?_cons_zero, List.getElem?_cons_succ, Option.bind, Option.getD]
              repeat (first | (with_reducible refine all_isV ?_) | (with_reducible refine all_isWC ?_; intro sx Ax kx cx hvx hwx) | (with_reducible refine all_isNR ?_; intro Ax kx cx hvx) | (with_reducible refine all_isNV ?_; intro Ax kx cx hvx) | (with_reducible refine all_isDV ?_; intro sx Ax kx cx hvx) | (with_reducible refine all_isWV ?_; intro sx Ax kx cx hvx) | (with_reducible refine all_isD ?_; intro sx Ax kx cx hvx hwx) | (with_reducible refine all_isRow ?_; intro gx' hbx) | (with_reducible refine all_isPtr ?_; intro gp' hbp hgp) | (with_reducible refine all_isRow1 ?_; intro gx' sr Ar kr cr hbx hvr))
              refine ⟨by kernel_rfl, ?_⟩
              go_simp
              exact ⟨Only.refl _ _, isV.self _ _⟩
            refine owes2_cons (fun wx hox => ?_) ?_
            · skip
              skip
              refine withs_plain rfl ?_
              simp only [withs, List.getElem?_cons_zero, List.getElem?_cons_succ, Option.bind, Option.getD]
              repeat (first | (with_reducible refine all_isV ?_) | (with_reducible refine all_isWC ?_; intro sx Ax kx cx hvx hwx) | (with_reducible refine all_isNR ?_; intro Ax kx cx hvx) | (with_reducible refine all_isNV ?_; intro Ax kx cx hvx) | (with_reducible refine all_isDV ?_; intro sx Ax kx cx hvx) | (with_reducible refine all_isWV ?_; intro sx Ax kx cx hvx) | (with_reducible refine all_isD ?_; intro sx Ax kx cx hvx hwx) | (with_reducible refine all_isRow ?_; intro gx' hbx) | (with_reducible refine all_isPtr ?_; intro gp' hbp hgp) | (with_reducible refine all_isRow1 ?_; intro gx' sr Ar kr cr hbx hvr))
              go_simp
              exact ⟨Only.refl _ _, isV.self _ _⟩
            refine owes2_cons (fun wx hox => ?_) ?_
            · skip
              skip
              refine withs_plain rfl ?_
              simp only [withs, List.getElem?_cons_zero, List.getElem?_cons_succ, Option.bind, Option.getD]
              repeat (first | (with_reducible refine all_isV ?_) | (with_reducible refine all_isWC ?_; intro sx Ax kx cx hvx hwx) | (with_reducible refine all_isNR ?_; intro Ax kx cx hvx) | (with_reducible refine all_isNV ?_; intro Ax kx cx hvx) | (with_reducible refine all_isDV ?_; intro sx Ax kx cx hvx) | (with_reducible refine all_isWV ?_; intro sx Ax kx cx hvx) | (with_reducible refine all_isD ?_; intro sx Ax kx cx hvx hwx) | (with_reducible refine all_isRow ?_; intro gx' hbx) | (with_reducible refine all_isPtr ?_; intro gp' hbp hgp) | (with_reducible refine all_isRow1 ?_; intro gx' sr Ar kr cr hbx hvr))
              go_simp
              exact ⟨Only.refl _ _, isV.self _ _⟩
            refine owes2_cons (fun wx hox => ?_) ?_
            · skip
              have he := Lib.hid (HE.out.step hox)
              have htx := Lib.hid (hT.out.keep he.out.only)
              obtain ⟨i0, i1, i2, -, -, -⟩ := DB.cells he 5 rfl
              have ivx := DB.iv he 5 rfl
              obtain ⟨j0, j1, j2, -, -, -⟩ := DB.cells he 4 rfl
              have ivy := DB.iv he 4 rfl
              obtain ⟨k0, k1, k2, -, -, -⟩ := DB.cells he 1 rfl
              have ivq := DB.iv he 1 rfl
              obtain ⟨l0, l1, l2, -, -, -⟩ := DB.cells he 0 rfl
              have ivr := DB.iv he 0 rfl
              clear he
              refine withs_guard rfl rfl ?_
              simp only [withs, List.getElem?_cons_zero, List.getElem?_cons_succ, Option.bind, Option.getD]
              repeat (first | (with_reducible refine all_isV ?_) | (with_reducible refine all_isWC ?_; intro sx Ax kx cx hvx hwx) | (with_reducible refine all_isNR ?_; intro Ax kx cx hvx) | (with_reducible refine all_isNV ?_; intro Ax kx cx hvx) | (with_reducible refine all_isDV ?_; intro sx Ax kx cx hvx) | (with_reducible refine all_isWV ?_; intro sx Ax kx cx hvx) | (with_reducible refine all_isD ?_; intro sx Ax kx cx hvx hwx) | (with_reducible refine all_isRow ?_; intro gx' hbx) | (with_reducible refine all_isPtr ?_; intro gp' hbp hgp) | (with_reducible refine all_isRow1 ?_; intro gx' sr Ar kr cr hbx hvr))
              refine ⟨by kernel_rfl, ?_⟩
              go_simp
              exact ⟨Only.refl _ _, isV.self _ _⟩
            refine owes2_cons (fun wx hox => ?_) ?_
            · skip
              have he := Lib.hid (HE.out.step hox)
              have htx := Lib.hid (hT.out.keep he.out.only)
              obtain ⟨i0, i1, i2, -, -, -⟩ := DB.cells he 5 rfl
              have ivx := DB.iv he 5 rfl
              obtain ⟨j0, j1, j2, -, -, -⟩ := DB.cells he 4 rfl
              have ivy := DB.iv he 4 rfl
              obtain ⟨k0, k1, k2, -, -, -⟩ := DB.cells he 1 rfl
              have ivq := DB.iv he 1 rfl
              obtain ⟨l0, l1, l2, -, -, -⟩ := DB.cells he 0 rfl
              have ivr := DB.iv he 0 rfl
              clear he
              refine withs_guard rfl rfl ?_
              simp only [withs, List.getElem?_cons_zero, List.getElem?_cons_succ, Option.bind, Option.getD]
              repeat (first | (with_reducible refine all_isV ?_) | (with_reducible refine all_isWC ?_; intro sx Ax kx cx hvx hwx) | (with_reducible refine all_isNR ?_; intro Ax kx cx hvx) | (with_reducible refine all_isNV ?_; intro Ax kx cx hvx) | (with_reducible refine all_isDV ?_; intro sx Ax kx cx hvx) | (with_reducible refine all_isWV ?_; intro sx Ax kx cx hvx) | (with_reducible refine all_isD ?_; intro sx Ax kx cx hvx hwx) | (with_reducible refine all_isRow ?_; intro gx' hbx) | (with_reducible refine all_isPtr ?_; intro gp' hbp hgp) | (with_reducible refine all_isRow1 ?_; intro gx' sr Ar kr cr hbx hvr))
              refine ⟨by kernel_rfl, ?_⟩
              go_simp
              exact ⟨Only.refl _ _, isV.self _ _⟩
            refine owes2_cons (fun wx hox => ?_) ?_
            · skip
              have he := Lib.hid (HE.out.step hox)
              have htx := Lib.hid (hT.out.keep he.out.only)
              obtain ⟨i0, i1, i2, -, -, -⟩ := DB.cells he 5 rfl
              have ivx := DB.iv he 5 rfl
              obtain ⟨j0, j1, j2, -, -, -⟩ := DB.cells he 4 rfl
              have ivy := DB.iv he 4 rfl
              obtain ⟨k0, k1, k2, -, -, -⟩ := DB.cells he 1 rfl
              have ivq := DB.iv he 1 rfl
              obtain ⟨l0, l1, l2, -, -, -⟩ := DB.cells he 0 rfl
              have ivr := DB.iv he 0 rfl
              clear he
              refine withs_guard rfl rfl ?_
              simp only [withs, List.getElem?_cons_zero, List.getElem?_cons_succ, Option.bind, Option.getD]
              repeat (first | (with_reducible refine all_isV ?_) | (with_reducible refine all_isWC ?_; intro sx Ax kx cx hvx hwx) | (with_reducible refine all_isNR ?_; intro Ax kx cx hvx) | (with_reducible refine all_isNV ?_; intro Ax kx cx hvx) | (with_reducible refine all_isDV ?_; intro sx Ax kx cx hvx) | (with_reducible refine all_isWV ?_; intro sx Ax kx cx hvx) | (with_reducible refine all_isD ?_; intro sx Ax kx cx hvx hwx) | (with_reducible refine all_isRow ?_; intro gx' hbx) | (with_reducible refine all_isPtr ?_; intro gp' hbp hgp) | (with_reducible refine all_isRow1 ?_; intro gx' sr Ar kr cr hbx hvr))
              refine ⟨by kernel_rfl, ?_⟩
              go_simp
              (with_reducible exact grow_d (mul_d (DV.of (by assumption)) (DV.of (by assumption)) BQ BYQ (by omega) htx))
            refine owes2_cons (fun wx hox => ?_) ?_
            · skip
              have he := Lib.hid (HE.out.step hox)
              have htx := Lib.hid (hT.out.keep he.out.only)
              obtain ⟨i0, i1, i2, -, -, -⟩ := DB.cells he 5 rfl
              have ivx := DB.iv he 5 rfl
              obtain ⟨j0, j1, j2, -, -, -⟩ := DB.cells he 4 rfl
              have ivy := DB.iv he 4 rfl
              obtain ⟨k0, k1, k2, -, -, -⟩ := DB.cells he 1 rfl
              have ivq := DB.iv he 1 rfl
              obtain ⟨l0, l1, l2, -, -, -⟩ := DB.cells he 0 rfl
              have ivr := DB.iv he 0 rfl
              clear he
              refine withs_guard rfl rfl ?_
              simp only [withs, List.getElem?_cons_zero, List.getElem?_cons_succ, Option.bind, Option.getD]
              repeat (first | (with_reducible refine all_isV ?_) | (with_reducible refine all_isWC ?_; intro sx Ax kx cx hvx hwx) | (with_reducible refine all_isNR ?_; intro Ax kx cx hvx) | (with_reducible refine all_isNV ?_; intro Ax kx cx hvx) | (with_reducible refine all_isDV ?_; intro sx Ax kx cx hvx) | (with_reducible refine all_isWV ?_; intro sx Ax kx cx hvx) | (with_reducible refine all_isD ?_; intro sx Ax kx cx hvx hwx) | (with_reducible refine all_isRow ?_; intro gx' hbx) | (with_reducible refine all_isPtr ?_; intro gp' hbp hgp) | (with_reducible refine all_isRow1 ?_; intro gx' sr Ar kr cr hbx hvr))
              refine ⟨by kernel_rfl, ?_⟩
              go_simp
              exact ⟨Only.refl _ _, isV.self _ _⟩
            refine owes2_cons (fun wx hox => ?_) ?_
            · skip
              have he := Lib.hid (HE.out.step hox)
              have htx := Lib.hid (hT.out.keep he.out.only)
              obtain ⟨i0, i1, i2, -, -, -⟩ := DB.cells he 5 rfl
              have ivx := DB.iv he 5 rfl
              obtain ⟨j0, j1, j2, -, -, -⟩ := DB.cells he 4 rfl
              have ivy := DB.iv he 4 rfl
              obtain ⟨k0, k1, k2, -, -, -⟩ := DB.cells he 1 rfl
              have ivq := DB.iv he 1 rfl
              obtain ⟨l0, l1, l2, -, -, -⟩ := DB.cells he 0 rfl
              have ivr := DB.iv he 0 rfl
              clear he
              refine withs_guard rfl rfl ?_
              simp only [withs, List.getElem?_cons_zero, List.getElem?_cons_succ, Option.bind, Option.getD]
              repeat (first | (with_reducible refine all_isV ?_) | (with_reducible refine all_isWC ?_; intro sx Ax kx cx hvx hwx) | (with_reducible refine all_isNR ?_; intro Ax kx cx hvx) | (with_reducible refine all_isNV ?_; intro Ax kx cx hvx) | (with_reducible refine all_isDV ?_; intro sx Ax kx cx hvx) | (with_reducible refine all_isWV ?_; intro sx Ax kx cx hvx) | (with_reducible refine all_isD ?_; intro sx Ax kx cx hvx hwx) | (with_reducible refine all_isRow ?_; intro gx' hbx) | (with_reducible refine all_isPtr ?_; intro gp' hbp hgp) | (with_reducible refine all_isRow1 ?_; intro gx' sr Ar kr cr hbx hvr))
              refine ⟨by kernel_rfl, ?_⟩
              go_simp
              (with_reducible exact grow_of (cmpV_d (x := dMul q y) (y := x) kc1 (DV.of (by assumption)) (DV.of (by assumption)) BQY BXQ (by omega) HK1.out))
            refine owes2_cons (fun wx hox => ?_) ?_
            · skip
              skip
              refine withs_guard rfl rfl ?_
              simp only [withs, List.getElem?_cons_zero, List.getElem?_cons_succ, Option.bind, Option.getD]
              repeat (first | (with_reducible refine all_isV ?_) | (with_reducible refine all_isWC ?_; intro sx Ax kx cx hvx hwx) | (with_reducible refine all_isNR ?_; intro Ax kx cx hvx) | (with_reducible refine all_isNV ?_; intro Ax kx cx hvx) | (with_reducible refine all_isDV ?_; intro sx Ax kx cx hvx) | (with_reducible refine all_isWV ?_; intro sx Ax kx cx hvx) | (with_reducible refine all_isD ?_; intro sx Ax kx cx hvx hwx) | (with_reducible refine all_isRow ?_; intro gx' hbx) | (with_reducible refine all_isPtr ?_; intro gp' hbp hgp) | (with_reducible refine all_isRow1 ?_; intro gx' sr Ar kr cr hbx hvr))
              refine ⟨by kernel_rfl, ?_⟩
              go_simp
              exact ⟨Only.refl _ _, isV.self _ _⟩
            refine owes2_cons (fun wx hox => ?_) ?_
            · skip
              skip
              refine withs_plain rfl ?_
              simp only [withs, List.getElem?_cons_zero, List.getElem?_cons_succ, Option.bind, Option.getD]
              repeat (first | (with_reducible refine all_isV ?_) | (with_reducible refine all_isWC ?_; intro sx Ax kx cx hvx hwx) | (with_reducible refine all_isNR ?_; intro Ax kx cx hvx) | (with_reducible refine all_isNV ?_; intro Ax kx cx hvx) | (with_reducible refine all_isDV ?_; intro sx Ax kx cx hvx) | (with_reducible refine all_isWV ?_; intro sx Ax kx cx hvx) | (with_reducible refine all_isD ?_; intro sx Ax kx cx hvx hwx) | (with_reducible refine all_isRow ?_; intro gx' hbx) | (with_reducible refine all_isPtr ?_; intro gp' hbp hgp) | (with_reducible refine all_isRow1 ?_; intro gx' sr Ar kr cr hbx hvr))
              go_simp
              exact ⟨Only.refl _ _, isV.self _ _⟩
            refine owes2_cons (fun wx hox => ?_) ?_
            · skip
              skip
              refine withs_plain rfl ?_
              simp only [withs, List.getElem?_cons_zero, List.getElem?_cons_succ, Option.bind, Option.getD]
              repeat (first | (with_reducible refine all_isV ?_) | (with_reducible refine all_isWC ?_; intro sx Ax kx cx hvx hwx) | (with_reducible refine all_isNR ?_; intro Ax kx cx hvx) | (with_reducible refine all_isNV ?_; intro Ax kx cx hvx) | (with_reducible refine all_isDV ?_; intro sx Ax kx cx hvx) | (with_reducible refine all_isWV ?_; intro sx Ax kx cx hvx) | (with_reducible refine all_isD ?_; intro sx Ax kx cx hvx hwx) | (with_reducible refine all_isRow ?_; intro gx' hbx) | (with_reducible refine all_isPtr ?_; intro gp' hbp hgp) | (with_reducible refine all_isRow1 ?_; intro gx' sr Ar kr cr hbx hvr))
              go_simp
              exact ⟨Only.refl _ _, isV.self _ _⟩
            refine owes2_cons (fun wx hox => ?_) ?_
            · skip
              have he := Lib.hid (HE.out.step hox)
              have htx := Lib.hid (hT.out.keep he.out.only)
              obtain ⟨i0, i1, i2, -, -, -⟩ := DB.cells he 5 rfl
              have ivx := DB.iv he 5 rfl
              obtain ⟨j0, j1, j2, -, -, -⟩ := DB.cells he 4 rfl
              have ivy := DB.iv he 4 rfl
              obtain ⟨k0, k1, k2, -, -, -⟩ := DB.cells he 1 rfl
              have ivq := DB.iv he 1 rfl
              obtain ⟨l0, l1, l2, -, -, -⟩ := DB.cells he 0 rfl
              have ivr := DB.iv he 0 rfl
              clear he
              refine withs_guard rfl rfl ?_
              simp only [withs, List.getElem?_cons_zero, List.getElem?_cons_succ, Option.bind, Option.getD]
              repeat (first | (with_reducible refine all_isV ?_) | (with_reducible refine all_isWC ?_; intro sx Ax kx cx hvx hwx) | (with_reducible refine all_isNR ?_; intro Ax kx cx hvx) | (with_reducible refine all_isNV ?_; intro Ax kx cx hvx) | (with_reducible refine all_isDV ?_; intro sx Ax kx cx hvx) | (with_reducible refine all_isWV ?_; intro sx Ax kx cx hvx) | (with_reducible refine all_isD ?_; intro sx Ax kx cx hvx hwx) | (with_reducible refine all_isRow ?_; intro gx' hbx) | (with_reducible refine all_isPtr ?_; intro gp' hbp hgp) | (with_reducible refine all_isRow1 ?_; intro gx' sr Ar kr cr hbx hvr))
              refine ⟨by kernel_rfl, ?_⟩
              go_simp
              exact ⟨Only.refl _ _, isV.self _ _⟩
            refine owes2_cons (fun wx hox => ?_) ?_
            · skip
              have he := Lib.hid (HE.out.step hox)
              have htx := Lib.hid (hT.out.keep he.out.only)
              obtain ⟨i0, i1, i2, -, -, -⟩ := DB.cells he 5 rfl
              have ivx := DB.iv he 5 rfl
              obtain ⟨j0, j1, j2, -, -, -⟩ := DB.cells he 4 rfl
              have ivy := DB.iv he 4 rfl
              obtain ⟨k0, k1, k2, -, -, -⟩ := DB.cells he 1 rfl
              have ivq := DB.iv he 1 rfl
              obtain ⟨l0, l1, l2, -, -, -⟩ := DB.cells he 0 rfl
              have ivr := DB.iv he 0 rfl
              clear he
              refine withs_guard rfl rfl ?_
              simp only [withs, List.getElem?_cons_zero, List.getElem?_cons_succ, Option.bind, Option.getD]
              repeat (first | (with_reducible refine all_isV ?_) | (with_reducible refine all_isWC ?_; intro sx Ax kx cx hvx hwx) | (with_reducible refine all_isNR ?_; intro Ax kx cx hvx) | (with_reducible refine all_isNV ?_; intro Ax kx cx hvx) | (with_reducible refine all_isDV ?_; intro sx Ax kx cx hvx) | (with_reducible refine all_isWV ?_; intro sx Ax kx cx hvx) | (with_reducible refine all_isD ?_; intro sx Ax kx cx hvx hwx) | (with_reducible refine all_isRow ?_; intro gx' hbx) | (with_reducible refine all_isPtr ?_; intro gp' hbp hgp) | (with_reducible refine all_isRow1 ?_; intro gx' sr Ar kr cr hbx hvr))
              refine ⟨by kernel_rfl, ?_⟩
              go_simp
              exact ⟨Only.refl _ _, isV.self _ _⟩
            refine owes2_cons (fun wx hox => ?_) ?_
            · skip
              have he := Lib.hid (HE.out.step hox)
              have htx := Lib.hid (hT.out.keep he.out.only)
              obtain ⟨i0, i1, i2, -, -, -⟩ := DB.cells he 5 rfl
              have ivx := DB.iv he 5 rfl
              obtain ⟨j0, j1, j2, -, -, -⟩ := DB.cells he 4 rfl
              have ivy := DB.iv he 4 rfl
              obtain ⟨k0, k1, k2, -, -, -⟩ := DB.cells he 1 rfl
              have ivq := DB.iv he 1 rfl
              obtain ⟨l0, l1, l2, -, -, -⟩ := DB.cells he 0 rfl
              have ivr := DB.iv he 0 rfl
              clear he
              refine withs_guard rfl rfl ?_
              simp only [withs, List.getElem?_cons_zero, List.getElem?_cons_succ, Option.bind, Option.getD]
              repeat (first | (with_reducible refine all_isV ?_) | (with_reducible refine all_isWC ?_; intro sx Ax kx cx hvx hwx) | (with_reducible refine all_isNR ?_; intro Ax kx cx hvx) | (with_reducible refine all_isNV ?_; intro Ax kx cx hvx) | (with_reducible refine all_isDV ?_; intro sx Ax kx cx hvx) | (with_reducible refine all_isWV ?_; intro sx Ax kx cx hvx) | (with_reducible refine all_isD ?_; intro sx Ax kx cx hvx hwx) | (with_reducible refine all_isRow ?_; intro gx' hbx) | (with_reducible refine all_isPtr ?_; intro gp' hbp hgp) | (with_reducible refine all_isRow1 ?_; intro gx' sr Ar kr cr hbx hvr))
              refine ⟨by kernel_rfl, ?_⟩
              go_simp
              (with_reducible exact grow_d (mul_d (DV.of (by assumption)) (DV.of (by assumption)) BR BYQ (by omega) htx))
            refine owes2_cons (fun wx hox => ?_) ?_
            · skip
              have he := Lib.hid (HE.out.step hox)
              have htx := Lib.hid (hT.out.keep he.out.only)
              obtain ⟨i0, i1, i2, -, -, -⟩ := DB.cells he 5 rfl
              have ivx := DB.iv he 5 rfl
              obtain ⟨j0, j1, j2, -, -, -⟩ := DB.cells he 4 rfl
              have ivy := DB.iv he 4 rfl
              obtain ⟨k0, k1, k2, -, -, -⟩ := DB.cells he 1 rfl
              have ivq := DB.iv he 1 rfl
              obtain ⟨l0, l1, l2, -, -, -⟩ := DB.cells he 0 rfl
              have ivr := DB.iv he 0 rfl
              clear he
              refine withs_guard rfl rfl ?_
              simp only [withs, List.getElem?_cons_zero, List.getElem?_cons_succ, Option.bind, Option.getD]
              repeat (first | (with_reducible refine all_isV ?_) | (with_reducible refine all_isWC ?_; intro sx Ax kx cx hvx hwx) | (with_reducible refine all_isNR ?_; intro Ax kx cx hvx) | (with_reducible refine all_isNV ?_; intro Ax kx cx hvx) | (with_reducible refine all_isDV ?_; intro sx Ax kx cx hvx) | (with_reducible refine all_isWV ?_; intro sx Ax kx cx hvx) | (with_reducible refine all_isD ?_; intro sx Ax kx cx hvx hwx) | (with_reducible refine all_isRow ?_; intro gx' hbx) | (with_reducible refine all_isPtr ?_; intro gp' hbp hgp) | (with_reducible refine all_isRow1 ?_; intro gx' sr Ar kr cr hbx hvr))
              refine ⟨by kernel_rfl, ?_⟩
              go_simp
              exact ⟨Only.refl _ _, isV.self _ _⟩
            refine owes2_cons (fun wx hox => ?_) ?_
            · skip
              have he := Lib.hid (HE.out.step hox)
              have htx := Lib.hid (hT.out.keep he.out.only)
              obtain ⟨i0, i1, i2, -, -, -⟩ := DB.cells he 5 rfl
              have ivx := DB.iv he 5 rfl
              obtain ⟨j0, j1, j2, -, -, -⟩ := DB.cells he 4 rfl
              have ivy := DB.iv he 4 rfl
              obtain ⟨k0, k1, k2, -, -, -⟩ := DB.cells he 1 rfl
              have ivq := DB.iv he 1 rfl
              obtain ⟨l0, l1, l2, -, -, -⟩ := DB.cells he 0 rfl
              have ivr := DB.iv he 0 rfl
              clear he
              refine withs_guard rfl rfl ?_
              simp only [withs, List.getElem?_cons_zero, List.getElem?_cons_succ, Option.bind, Option.getD]
              repeat (first | (with_reducible refine all_isV ?_) | (with_reducible refine all_isWC ?_; intro sx Ax kx cx hvx hwx) | (with_reducible refine all_isNR ?_; intro Ax kx cx hvx) | (with_reducible refine all_isNV ?_; intro Ax kx cx hvx) | (with_reducible refine all_isDV ?_; intro sx Ax kx cx hvx) | (with_reducible refine all_isWV ?_; intro sx Ax kx cx hvx) | (with_reducible refine all_isD ?_; intro sx Ax kx cx hvx hwx) | (with_reducible refine all_isRow ?_; intro gx' hbx) | (with_reducible refine all_isPtr ?_; intro gp' hbp hgp) | (with_reducible refine all_isRow1 ?_; intro gx' sr Ar kr cr hbx hvr))
              refine ⟨by kernel_rfl, ?_⟩
              go_simp
              (with_reducible exact grow_of (cmpV_d (x := dMul r y) (y := x) kc2 (DV.of (by assumption)) (DV.of (by assumption)) BRY BXQ (by omega) HK2.out))
            refine owes2_cons (fun wx hox => ?_) ?_
            · skip
              skip
              refine withs_guard rfl rfl ?_
              simp only [withs, List.getElem?_cons_zero, List.getElem?_cons_succ, Option.bind, Option.getD]
              repeat (first | (with_reducible refine all_isV ?_) | (with_reducible refine all_isWC ?_; intro sx Ax kx cx hvx hwx) | (with_reducible refine all_isNR ?_; intro Ax kx cx hvx) | (with_reducible refine all_isNV ?_; intro Ax kx cx hvx) | (with_reducible refine all_isDV ?_; intro sx Ax kx cx hvx) | (with_reducible refine all_isWV ?_; intro sx Ax kx cx hvx) | (with_reducible refine all_isD ?_; intro sx Ax kx cx hvx hwx) | (with_reducible refine all_isRow ?_; intro gx' hbx) | (with_reducible refine all_isPtr ?_; intro gp' hbp hgp) | (with_reducible refine all_isRow1 ?_; intro gx' sr Ar kr cr hbx hvr))
              refine ⟨by kernel_rfl, ?_⟩
              go_simp
              exact ⟨Only.refl _ _, isV.self _ _⟩
            refine owes2_cons (fun wx hox => ?_) ?_
            · skip
              skip
              refine withs_plain rfl ?_
              simp only [withs, List.getElem?_cons_zero, List.getElem?_cons_succ, Option.bind, Option.getD]
              repeat (first | (with_reducible refine all_isV ?_) | (with_reducible refine all_isWC ?_; intro sx Ax kx cx hvx hwx) | (with_reducible refine all_isNR ?_; intro Ax kx cx hvx) | (with_reducible refine all_isNV ?_; intro Ax kx cx hvx) | (with_reducible refine all_isDV ?_; intro sx Ax kx cx hvx) | (with_reducible refine all_isWV ?_; intro sx Ax kx cx hvx) | (with_reducible refine all_isD ?_; intro sx Ax kx cx hvx hwx) | (with_reducible refine all_isRow ?_; intro gx' hbx) | (with_reducible refine all_isPtr ?_; intro gp' hbp hgp) | (with_reducible refine all_isRow1 ?_; intro gx' sr Ar kr cr hbx hvr))
              go_simp
              exact ⟨Only.refl _ _, isV.self _ _⟩
            refine owes2_cons (fun wx hox => ?_) ?_
            · skip
              skip
              refine withs_plain rfl ?_
              simp only [withs, List.getElem?_cons_zero, List.getElem?_cons_succ, Option.bind, Option.getD]
              repeat (first | (with_reducible refine all_isV ?_) | (with_reducible refine all_isWC ?_; intro sx Ax kx cx hvx hwx) | (with_reducible refine all_isNR ?_; intro Ax kx cx hvx) | (with_reducible refine all_isNV ?_; intro Ax kx cx hvx) | (with_reducible refine all_isDV ?_; intro sx Ax kx cx hvx) | (with_reducible refine all_isWV ?_; intro sx Ax kx cx hvx) | (with_reducible refine all_isD ?_; intro sx Ax kx cx hvx hwx) | (with_reducible refine all_isRow ?_; intro gx' hbx) | (with_reducible refine all_isPtr ?_; intro gp' hbp hgp) | (with_reducible refine all_isRow1 ?_; intro gx' sr Ar kr cr hbx hvr))
              go_simp
              exact ⟨Only.refl _ _, isV.self _ _⟩
            refine owes2_cons (fun wx hox => ?_) ?_
            · skip
              have he := Lib.hid (HE.out.step hox)
              have htx := Lib.hid (hT.out.keep he.out.only)
              obtain ⟨i0, i1, i2, -, -, -⟩ := DB.cells he 5 rfl
              have ivx := DB.iv he 5 rfl
              obtain ⟨j0, j1, j2, -, -, -⟩ := DB.cells he 4 rfl
              have ivy := DB.iv he 4 rfl
              obtain ⟨k0, k1, k2, -, -, -⟩ := DB.cells he 1 rfl
              have ivq := DB.iv he 1 rfl
              obtain ⟨l0, l1, l2, -, -, -⟩ := DB.cells he 0 rfl
              have ivr := DB.iv he 0 rfl
              clear he
              refine withs_guard rfl rfl ?_
              simp only [withs, List.getElem?_cons_zero, List.getElem?_cons_succ, Option.bind, Option.getD]
              repeat (first | (with_reducible refine all_isV ?_) | (with_reducible refine all_isWC ?_; intro sx Ax kx cx hvx hwx) | (with_reducible refine all_isNR ?_; intro Ax kx cx hvx) | (with_reducible refine all_isNV ?_; intro Ax kx cx hvx) | (with_reducible refine all_isDV ?_; intro sx Ax kx cx hvx) | (with_reducible refine all_isWV ?_; intro sx Ax kx cx hvx) | (with_reducible refine all_isD ?_; intro sx Ax kx cx hvx hwx) | (with_reducible refine all_isRow ?_; intro gx' hbx) | (with_reducible refine all_isPtr ?_; intro gp' hbp hgp) | (with_reducible refine all_isRow1 ?_; intro gx' sr Ar kr cr hbx hvr))
              refine ⟨by kernel_rfl, ?_⟩
              go_simp
              exact ⟨Only.refl _ _, isV.self _ _⟩
            refine owes2_cons (fun wx hox => ?_) ?_
            · skip
              have he := Lib.hid (HE.out.step hox)
              have htx := Lib.hid (hT.out.keep he.out.only)
              obtain ⟨i0, i1, i2, -, -, -⟩ := DB.cells he 5 rfl
              have ivx := DB.iv he 5 rfl
              obtain ⟨j0, j1, j2, -, -, -⟩ := DB.cells he 4 rfl
              have ivy := DB.iv he 4 rfl
              obtain ⟨k0, k1, k2, -, -, -⟩ := DB.cells he 1 rfl
              have ivq := DB.iv he 1 rfl
              obtain ⟨l0, l1, l2, -, -, -⟩ := DB.cells he 0 rfl
              have ivr := DB.iv he 0 rfl
              clear he
              refine withs_guard rfl rfl ?_
              simp only [withs, List.getElem?_cons_zero, List.getElem?_cons_succ, Option.bind, Option.getD]
              repeat (first | (with_reducible refine all_isV ?_) | (with_reducible refine all_isWC ?_; intro sx Ax kx cx hvx hwx) | (with_reducible refine all_isNR ?_; intro Ax kx cx hvx) | (with_reducible refine all_isNV ?_; intro Ax kx cx hvx) | (with_reducible refine all_isDV ?_; intro sx Ax kx cx hvx) | (with_reducible refine all_isWV ?_; intro sx Ax kx cx hvx) | (with_reducible refine all_isD ?_; intro sx Ax kx cx hvx hwx) | (with_reducible refine all_isRow ?_; intro gx' hbx) | (with_reducible refine all_isPtr ?_; intro gp' hbp hgp) | (with_reducible refine all_isRow1 ?_; intro gx' sr Ar kr cr hbx hvr))
              refine ⟨by kernel_rfl, ?_⟩
              go_simp
              exact ⟨Only.refl _ _, isV.self _ _⟩
            refine owes2_cons (fun wx hox => ?_) ?_
            · skip
              have he := Lib.hid (HE.out.step hox)
              have htx := Lib.hid (hT.out.keep he.out.only)
              obtain ⟨i0, i1, i2, -, -, -⟩ := DB.cells he 5 rfl
              have ivx := DB.iv he 5 rfl
              obtain ⟨j0, j1, j2, -, -, -⟩ := DB.cells he 4 rfl
              have ivy := DB.iv he 4 rfl
              obtain ⟨k0, k1, k2, -, -, -⟩ := DB.cells he 1 rfl
              have ivq := DB.iv he 1 rfl
              obtain ⟨l0, l1, l2, -, -, -⟩ := DB.cells he 0 rfl
              have ivr := DB.iv he 0 rfl
              clear he
              refine withs_guard rfl rfl ?_
              simp only [withs, List.getElem?_cons_zero, List.getElem?_cons_succ, Option.bind, Option.getD]
              repeat (first | (with_reducible refine all_isV ?_) | (with_reducible refine all_isWC ?_; intro sx Ax kx cx hvx hwx) | (with_reducible refine all_isNR ?_; intro Ax kx cx hvx) | (with_reducible refine all_isNV ?_; intro Ax kx cx hvx) | (with_reducible refine all_isDV ?_; intro sx Ax kx cx hvx) | (with_reducible refine all_isWV ?_; intro sx Ax kx cx hvx) | (with_reducible refine all_isD ?_; intro sx Ax kx cx hvx hwx) | (with_reducible refine all_isRow ?_; intro gx' hbx) | (with_reducible refine all_isPtr ?_; intro gp' hbp hgp) | (with_reducible refine all_isRow1 ?_; intro gx' sr Ar kr cr hbx hvr))
              refine ⟨by kernel_rfl, ?_⟩
              go_simp
              (with_reducible exact grow_of (cmpV_d (x := q) (y := r) kc3 (DV.of (by assumption)) (DV.of (by assumption)) BQ BR (by omega) HK3.out))
            refine owes2_cons (fun wx hox => ?_) ?_
            · skip
              skip
              refine withs_guard rfl rfl ?_
              simp only [withs, List.getElem?_cons_zero, List.getElem?_cons_succ, Option.bind, Option.getD]
              repeat (first | (with_reducible refine all_isV ?_) | (with_reducible refine all_isWC ?_; intro sx Ax kx cx hvx hwx) | (with_reducible refine all_isNR ?_; intro Ax kx cx hvx) | (with_reducible refine all_isNV ?_; intro Ax kx cx hvx) | (with_reducible refine all_isDV ?_; intro sx Ax kx cx hvx) | (with_reducible refine all_isWV ?_; intro sx Ax kx cx hvx) | (with_reducible refine all_isD ?_; intro sx Ax kx cx hvx hwx) | (with_reducible refine all_isRow ?_; intro gx' hbx) | (with_reducible refine all_isPtr ?_; intro gp' hbp hgp) | (with_reducible refine all_isRow1 ?_; intro gx' sr Ar kr cr hbx hvr))
              refine ⟨by kernel_rfl, ?_⟩
              go_simp
              exact ⟨Only.refl _ _, isV.self _ _⟩
            refine owes2_cons (fun wx hox => ?_) ?_
            · skip
              skip
              refine withs_plain rfl ?_
              simp only [withs, List.getElem?_cons_zero, List.getElem?_cons_succ, Option.bind, Option.getD]
              repeat (first | (with_reducible refine all_isV ?_) | (with_reducible refine all_isWC ?_; intro sx Ax kx cx hvx hwx) | (with_reducible refine all_isNR ?_; intro Ax kx cx hvx) | (with_reducible refine all_isNV ?_; intro Ax kx cx hvx) | (with_reducible refine all_isDV ?_; intro sx Ax kx cx hvx) | (with_reducible refine all_isWV ?_; intro sx Ax kx cx hvx) | (with_reducible refine all_isD ?_; intro sx Ax kx cx hvx hwx) | (with_reducible refine all_isRow ?_; intro gx' hbx) | (with_reducible refine all_isPtr ?_; intro gp' hbp hgp) | (with_reducible refine all_isRow1 ?_; intro gx' sr Ar kr cr hbx hvr))
              go_simp
              exact ⟨Only.refl _ _, isV.self _ _⟩
            refine owes2_cons (fun wx hox => ?_) ?_
            · skip
              skip
              refine withs_plain rfl ?_
              simp only [withs, List.getElem?_cons_zero, List.getElem?_cons_succ, Option.bind, Option.getD]
              repeat (first | (with_reducible refine all_isV ?_) | (with_reducible refine all_isWC ?_; intro sx Ax kx cx hvx hwx) | (with_reducible refine all_isNR ?_; intro Ax kx cx hvx) | (with_reducible refine all_isNV ?_; intro Ax kx cx hvx) | (with_reducible refine all_isDV ?_; intro sx Ax kx cx hvx) | (with_reducible refine all_isWV ?_; intro sx Ax kx cx hvx) | (with_reducible refine all_isD ?_; intro sx Ax kx cx hvx hwx) | (with_reducible refine all_isRow ?_; intro gx' hbx) | (with_reducible refine all_isPtr ?_; intro gp' hbp hgp) | (with_reducible refine all_isRow1 ?_; intro gx' sr Ar kr cr hbx hvr))
              go_simp
              exact ⟨Only.refl _ _, isV.self _ _⟩
            refine owes2_cons (fun wx hox => ?_) ?_
            · skip
              have he := Lib.hid (HE.out.step hox)
              have htx := Lib.hid (hT.out.keep he.out.only)
              obtain ⟨i0, i1, i2, -, -, -⟩ := DB.cells he 5 rfl
              have ivx := DB.iv he 5 rfl
              obtain ⟨j0, j1, j2, -, -, -⟩ := DB.cells he 4 rfl
              have ivy := DB.iv he 4 rfl
              obtain ⟨k0, k1, k2, -, -, -⟩ := DB.cells he 1 rfl
              have ivq := DB.iv he 1 rfl
              obtain ⟨l0, l1, l2, -, -, -⟩ := DB.cells he 0 rfl
              have ivr := DB.iv he 0 rfl
              clear he
              refine withs_guard rfl rfl ?_
              simp only [withs, List.getElem?_cons_zero, List.getElem?_cons_succ, Option.bind, Option.getD]
              repeat (first | (with_reducible refine all_isV ?_) | (with_reducible refine all_isWC ?_; intro sx Ax kx cx hvx hwx) | (with_reducible refine all_isNR ?_; intro Ax kx cx hvx) | (with_reducible refine all_isNV ?_; intro Ax kx cx hvx) | (with_reducible refine all_isDV ?_; intro sx Ax kx cx hvx) | (with_reducible refine all_isWV ?_; intro sx Ax kx cx hvx) | (with_reducible refine all_isD ?_; intro sx Ax kx cx hvx hwx) | (with_reducible refine all_isRow ?_; intro gx' hbx) | (with_reducible refine all_isPtr ?_; intro gp' hbp hgp) | (with_reducible refine all_isRow1 ?_; intro gx' sr Ar kr cr hbx hvr))
              refine ⟨by kernel_rfl, ?_⟩
              go_simp
              exact ⟨Only.refl _ _, isV.self _ _⟩
            refine owes2_cons (fun wx hox => ?_) ?_
            · skip
              skip
              refine withs_guard rfl rfl ?_
              simp only [withs, List.getElem?_cons_zero, List.getElem?_cons_succ, Option.bind, Option.getD]
              repeat (first | (with_reducible refine all_isV ?_) | (with_reducible refine all_isWC ?_; intro sx Ax kx cx hvx hwx) | (with_reducible refine all_isNR ?_; intro Ax kx cx hvx) | (with_reducible refine all_isNV ?_; intro Ax kx cx hvx) | (with_reducible refine all_isDV ?_; intro sx Ax kx cx hvx) | (with_reducible refine all_isWV ?_; intro sx Ax kx cx hvx) | (with_reducible refine all_isD ?_; intro sx Ax kx cx hvx hwx) | (with_reducible refine all_isRow ?_; intro gx' hbx) | (with_reducible refine all_isPtr ?_; intro gp' hbp hgp) | (with_reducible refine all_isRow1 ?_; intro gx' sr Ar kr cr hbx hvr))
              refine ⟨by kernel_rfl, ?_⟩
              go_simp
              exact ⟨Only.refl _ _, isV.self _ _⟩
            refine owes2_cons (fun wx hox => ?_) ?_
            · skip
              have he := Lib.hid (HE.out.step hox)
              have htx := Lib.hid (hT.out.keep he.out.only)
              obtain ⟨i0, i1, i2, -, -, -⟩ := DB.cells he 5 rfl
              have ivx := DB.iv he 5 rfl
              obtain ⟨j0, j1, j2, -, -, -⟩ := DB.cells he 4 rfl
              have ivy := DB.iv he 4 rfl
              obtain ⟨k0, k1, k2, -, -, -⟩ := DB.cells he 1 rfl
              have ivq := DB.iv he 1 rfl
              obtain ⟨l0, l1, l2, -, -, -⟩ := DB.cells he 0 rfl
              have ivr := DB.iv he 0 rfl
              clear he
              refine withs_guard rfl rfl ?_
              simp only [withs, List.getElem?_cons_zero, List.getElem?_cons_succ, Option.bind, Option.getD]
              repeat (first | (with_reducible refine all_isV ?_) | (with_reducible refine all_isWC ?_; intro sx Ax kx cx hvx hwx) | (with_reducible refine all_isNR ?_; intro Ax kx cx hvx) | (with_reducible refine all_isNV ?_; intro Ax kx cx hvx) | (with_reducible refine all_isDV ?_; intro sx Ax kx cx hvx) | (with_reducible refine all_isWV ?_; intro sx Ax kx cx hvx) | (with_reducible refine all_isD ?_; intro sx Ax kx cx hvx hwx) | (with_reducible refine all_isRow ?_; intro gx' hbx) | (with_reducible refine all_isPtr ?_; intro gp' hbp hgp) | (with_reducible refine all_isRow1 ?_; intro gx' sr Ar kr cr hbx hvr))
              refine ⟨by kernel_rfl, ?_⟩
              go_simp
              (with_reducible exact grow_of (short3V_any (x := q) p true (DV.of (by assumption)) HSQ.out))
            refine owes2_cons (fun wx hox => ?_) ?_
            · skip
              skip
              refine withs_guard rfl rfl ?_
              simp only [withs, List.getElem?_cons_zero, List.getElem?_cons_succ, Option.bind, Option.getD]
              repeat (first | (with_reducible refine all_isV ?_) | (with_reducible refine all_isWC ?_; intro sx Ax kx cx hvx hwx) | (with_reducible refine all_isNR ?_; intro Ax kx cx hvx) | (with_reducible refine all_isNV ?_; intro Ax kx cx hvx) | (with_reducible refine all_isDV ?_; intro sx Ax kx cx hvx) | (with_reducible refine all_isWV ?_; intro sx Ax kx cx hvx) | (with_reducible refine all_isD ?_; intro sx Ax kx cx hvx hwx) | (with_reducible refine all_isRow ?_; intro gx' hbx) | (with_reducible refine all_isPtr ?_; intro gp' hbp hgp) | (with_reducible refine all_isRow1 ?_; intro gx' sr Ar kr cr hbx hvr))
              refine ⟨by kernel_rfl, ?_⟩
              go_simp
              exact ⟨Only.refl _ _, isV.self _ _⟩
            refine owes2_cons (fun wx hox => ?_) ?_
            · skip
              skip
              refine withs_plain rfl ?_
              simp only [withs, List.getElem?_cons_zero, List.getElem?_cons_succ, Option.bind, Option.getD]
              repeat (first | (with_reducible refine all_isV ?_) | (with_reducible refine all_isWC ?_; intro sx Ax kx cx hvx hwx) | (with_reducible refine all_isNR ?_; intro Ax kx cx hvx) | (with_reducible refine all_isNV ?_; intro Ax kx cx hvx) | (with_reducible refine all_isDV ?_; intro sx Ax kx cx hvx) | (with_reducible refine all_isWV ?_; intro sx Ax kx cx hvx) | (with_reducible refine all_isD ?_; intro sx Ax kx cx hvx hwx) | (with_reducible refine all_isRow ?_; intro gx' hbx) | (with_reducible refine all_isPtr ?_; intro gp' hbp hgp) | (with_reducible refine all_isRow1 ?_; intro gx' sr Ar kr cr hbx hvr))
              go_simp
              exact ⟨Only.refl _ _, isV.self _ _⟩
            refine owes2_cons (fun wx hox => ?_) ?_
            · skip
              skip
              refine withs_plain rfl ?_
              simp only [withs, List.getElem?_cons_zero, List.getElem?_cons_succ, Option.bind, Option.getD]
              repeat (first | (with_reducible refine all_isV ?_) | (with_reducible refine all_isWC ?_; intro sx Ax kx cx hvx hwx) | (with_reducible refine all_isNR ?_; intro Ax kx cx hvx) | (with_reducible refine all_isNV ?_; intro Ax kx cx hvx) | (with_reducible refine all_isDV ?_; intro sx Ax kx cx hvx) | (with_reducible refine all_isWV ?_; intro sx Ax kx cx hvx) | (with_reducible refine all_isD ?_; intro sx Ax kx cx hvx hwx) | (with_reducible refine all_isRow ?_; intro gx' hbx) | (with_reducible refine all_isPtr ?_; intro gp' hbp hgp) | (with_reducible refine all_isRow1 ?_; intro gx' sr Ar kr cr hbx hvr))
              go_simp
              exact ⟨Only.refl _ _, isV.self _ _⟩
            refine owes2_cons (fun wx hox => ?_) ?_
            · skip
              have he := Lib.hid (HE.out.step hox)
              have htx := Lib.hid (hT.out.keep he.out.only)
              obtain ⟨i0, i1, i2, -, -, -⟩ := DB.cells he 5 rfl
              have ivx := DB.iv he 5 rfl
              obtain ⟨j0, j1, j2, -, -, -⟩ := DB.cells he 4 rfl
              have ivy := DB.iv he 4 rfl
              obtain ⟨k0, k1, k2, -, -, -⟩ := DB.cells he 1 rfl
              have ivq := DB.iv he 1 rfl
              obtain ⟨l0, l1, l2, -, -, -⟩ := DB.cells he 0 rfl
              have ivr := DB.iv he 0 rfl
              clear he
              refine withs_guard rfl rfl ?_
              simp only [withs, List.getElem?_cons_zero, List.getElem?_cons_succ, Option.bind, Option.getD]
              repeat (first | (with_reducible refine all_isV ?_) | (with_reducible refine all_isWC ?_; intro sx Ax kx cx hvx hwx) | (with_reducible refine all_isNR ?_; intro Ax kx cx hvx) | (with_reducible refine all_isNV ?_; intro Ax kx cx hvx) | (with_reducible refine all_isDV ?_; intro sx Ax kx cx hvx) | (with_reducible refine all_isWV ?_; intro sx Ax kx cx hvx) | (with_reducible refine all_isD ?_; intro sx Ax kx cx hvx hwx) | (with_reducible refine all_isRow ?_; intro gx' hbx) | (with_reducible refine all_isPtr ?_; intro gp' hbp hgp) | (with_reducible refine all_isRow1 ?_; intro gx' sr Ar kr cr hbx hvr))
              refine ⟨by kernel_rfl, ?_⟩
              go_simp
              exact ⟨Only.refl _ _, isV.self _ _⟩
            refine owes2_cons (fun wx hox => ?_) ?_
            · skip
              skip
              refine withs_guard rfl rfl ?_
              simp only [withs, List.getElem?_cons_zero, List.getElem?_cons_succ, Option.bind, Option.getD]
              repeat (first | (with_reducible refine all_isV ?_) | (with_reducible refine all_isWC ?_; intro sx Ax kx cx hvx hwx) | (with_reducible refine all_isNR ?_; intro Ax kx cx hvx) | (with_reducible refine all_isNV ?_; intro Ax kx cx hvx) | (with_reducible refine all_isDV ?_; intro sx Ax kx cx hvx) | (with_reducible refine all_isWV ?_; intro sx Ax kx cx hvx) | (with_reducible refine all_isD ?_; intro sx Ax kx cx hvx hwx) | (with_reducible refine all_isRow ?_; intro gx' hbx) | (with_reducible refine all_isPtr ?_; intro gp' hbp hgp) | (with_reducible refine all_isRow1 ?_; intro gx' sr Ar kr cr hbx hvr))
              refine ⟨by kernel_rfl, ?_⟩
              go_simp
              exact ⟨Only.refl _ _, isV.self _ _⟩
            refine owes2_cons (fun wx hox => ?_) ?_
            · skip
              have he := Lib.hid (HE.out.step hox)
              have htx := Lib.hid (hT.out.keep he.out.only)
              obtain ⟨i0, i1, i2, -, -, -⟩ := DB.cells he 5 rfl
              have ivx := DB.iv he 5 rfl
              obtain ⟨j0, j1, j2, -, -, -⟩ := DB.cells he 4 rfl
              have ivy := DB.iv he 4 rfl
              obtain ⟨k0, k1, k2, -, -, -⟩ := DB.cells he 1 rfl
              have ivq := DB.iv he 1 rfl
              obtain ⟨l0, l1, l2, -, -, -⟩ := DB.cells he 0 rfl
              have ivr := DB.iv he 0 rfl
              clear he
              refine withs_guard rfl rfl ?_
              simp only [withs, List.getElem?_cons_zero, List.getElem?_cons_succ, Option.bind, Option.getD]
              repeat (first | (with_reducible refine all_isV ?_) | (with_reducible refine all_isWC ?_; intro sx Ax kx cx hvx hwx) | (with_reducible refine all_isNR ?_; intro Ax kx cx hvx) | (with_reducible refine all_isNV ?_; intro Ax kx cx hvx) | (with_reducible refine all_isDV ?_; intro sx Ax kx cx hvx) | (with_reducible refine all_isWV ?_; intro sx Ax kx cx hvx) | (with_reducible refine all_isD ?_; intro sx Ax kx cx hvx hwx) | (with_reducible refine all_isRow ?_; intro gx' hbx) | (with_reducible refine all_isPtr ?_; intro gp' hbp hgp) | (with_reducible refine all_isRow1 ?_; intro gx' sr Ar kr cr hbx hvr))
              refine ⟨by kernel_rfl, ?_⟩
              go_simp
              (with_reducible exact grow_of (short3V_any (x := r) p true (DV.of (by assumption)) HSR.out))
            refine owes2_cons (fun wx hox => ?_) ?_
            · skip
              skip
              refine withs_guard rfl rfl ?_
              simp only [withs, List.getElem?_cons_zero, List.getElem?_cons_succ, Option.bind, Option.getD]
              repeat (first | (with_reducible refine all_isV ?_) | (with_reducible refine all_isWC ?_; intro sx Ax kx cx hvx hwx) | (with_reducible refine all_isNR ?_; intro Ax kx cx hvx) | (with_reducible refine all_isNV ?_; intro Ax kx cx hvx) | (with_reducible refine all_isDV ?_; intro sx Ax kx cx hvx) | (with_reducible refine all_isWV ?_; intro sx Ax kx cx hvx) | (with_reducible refine all_isD ?_; intro sx Ax kx cx hvx hwx) | (with_reducible refine all_isRow ?_; intro gx' hbx) | (with_reducible refine all_isPtr ?_; intro gp' hbp hgp) | (with_reducible refine all_isRow1 ?_; intro gx' sr Ar kr cr hbx hvr))
              refine ⟨by kernel_rfl, ?_⟩
              go_simp
              exact ⟨Only.refl _ _, isV.self _ _⟩
            refine owes2_cons (fun wx hox => ?_) ?_
            · skip
              skip
              refine withs_plain rfl ?_
              simp only [withs, List.getElem?_cons_zero, List.getElem?_cons_succ, Option.bind, Option.getD]
              repeat (first | (with_reducible refine all_isV ?_) | (with_reducible refine all_isWC ?_; intro sx Ax kx cx hvx hwx) | (with_reducible refine all_isNR ?_; intro Ax kx cx hvx) | (with_reducible refine all_isNV ?_; intro Ax kx cx hvx) | (with_reducible refine all_isDV ?_; intro sx Ax kx cx hvx) | (with_reducible refine all_isWV ?_; intro sx Ax kx cx hvx) | (with_reducible refine all_isD ?_; intro sx Ax kx cx hvx hwx) | (with_reducible refine all_isRow ?_; intro gx' hbx) | (with_reducible refine all_isPtr ?_; intro gp' hbp hgp) | (with_reducible refine all_isRow1 ?_; intro gx' sr Ar kr cr hbx hvr))
              go_simp
              exact ⟨Only.refl _ _, isV.self _ _⟩
            exact owes2_nil
          case he =>
            intro wx hox
            refine withs_of (by simp only [List.length, List.range, List.range.loop]; exact rfl) ?_
            simp only [withs, List.getElem?_cons_zero, List.getElem?_cons_succ, Option.bind, Option.getD]
            repeat (first | (with_reducible refine all_isV ?_) | (with_reducible refine all_isWC ?_; intro sx Ax kx cx hvx hwx) | (with_reducible refine all_isNR ?_; intro Ax kx cx hvx) | (with_reducible refine all_isNV ?_; intro Ax kx cx hvx) | (with_reducible refine all_isDV ?_; intro sx Ax kx cx hvx) | (with_reducible refine all_isWV ?_; intro sx Ax kx cx hvx) | (with_reducible refine all_isD ?_; intro sx Ax kx cx hvx hwx) | (with_reducible refine all_isRow ?_; intro gx' hbx) | (with_reducible refine all_isPtr ?_; intro gp' hbp hgp) | (with_reducible refine all_isRow1 ?_; intro gx' sr Ar kr cr hbx hvr))
            go_simp
            replace HT5 := Lib.hid (HT5.out.nil_trans hox)
            clear hox
            go_wp2_with fail
            go_meet
            exact HT5.out
          case hl =>
            repeat (refine List.forall_mem_cons.2 ⟨?_, ?_⟩; first | exact isV.lasts _ | exact isD.lasts _ | exact isNV.lasts _ | exact isDV.lasts _ | exact isWV.lasts _ | exact isWC.lasts _ | exact isNR.lasts _ _ | exact isWR.lasts _ _ | exact isRow.lasts _ _ _ | exact isPtr.lasts _ _ _ | exact isRow1.lasts _)
            exact fun _ h => (by cases h)
        · skip
          go_wp2_with fail
          go_meet
          exact HT5.out
      replace HE := Lib.hid (HEs.out.step hcut)
      clear hcut HEs HT5
      by_cases hx0 : px < 0
      · skip
        obtain ⟨i0, i1, i2, -, -, -⟩ := DB.cells HE 3 rfl
        go_wp2_with fail
        (with_reducible refine (signV_d px (DB.dv HE 3 rfl) HPX.out).mono ?_)
        rintro e w5 ⟨rfl, ho⟩
        replace HE := Lib.hid (HE.out.step ho)
        try replace HT5 := Lib.hid (HT5.out.nil_trans ho)
        clear ho
        clear i0 i1 i2
        go_wp2_with fail
        go_ret
        exact ⟨rfl, HE.out.only⟩
      · obtain ⟨HK4, HK5, HSS, HST, HPS, hk4, hk5, hps, HOK⟩ := HSQRT.out (by omega)
        obtain ⟨i0, i1, i2, -, -, -⟩ := DB.cells HE 3 rfl
        go_wp2_with fail
        (with_reducible refine (signV_d px (DB.dv HE 3 rfl) HPX.out).mono ?_)
        rintro e w5 ⟨rfl, ho⟩
        replace HE := Lib.hid (HE.out.step ho)
        try replace HT5 := Lib.hid (HT5.out.nil_trans ho)
        clear ho
        clear i0 i1 i2
        obtain ⟨i0, i1, i2, -, -, -⟩ := DB.cells HE 3 rfl
        go_wp2_with fail
        (with_reducible refine (sqrtV_d p (-1) s true HS.out HOK.out (DB.dv HE 3 rfl) BX (by omega) (Lib.hid (hT.out.keep HE.out.only))).mono ?_)
        rintro e w5 ⟨s5, A5, kk5, c5, rfl, -, -, hv, ho⟩
        replace HE := Lib.hid ((HE.out.step ho).new hv)
        try replace HT5 := Lib.hid ((HT5.out.nil_trans ho).alloc (.cells #[.bool s5, .slice A5 kk5 c5, .int .i64 s.e] 51))
        clear hv ho
        clear i0 i1 i2
        obtain ⟨i0, i1, i2, -, -, -⟩ := DB.cells HE 4 rfl
        go_wp2_with fail
        (with_reducible refine (sqrtV_d p 1 t true HT'.out HOK.out (DB.dv HE 4 rfl) BX (by omega) (Lib.hid (hT.out.keep HE.out.only))).mono ?_)
        rintro e w5 ⟨s5, A5, kk5, c5, rfl, -, -, hv, ho⟩
        replace HE := Lib.hid ((HE.out.step ho).new hv)
        try replace HT5 := Lib.hid ((HT5.out.nil_trans ho).alloc (.cells #[.bool s5, .slice A5 kk5 c5, .int .i64 t.e] 51))
        clear hv ho
        clear i0 i1 i2
        go_upto_region 20 with fail
        apply wp_region_typed2 (by kernel_rfl) [isV _, isV _, isV _, isV _, isV _, isV _, isV _, isD (dMul s s), isV _, isV _, isV _, isV _, isV _, isV _, isV _, isD (dMul t t), isV _, isV _, isV _, isV _, isV _, isV _, isV _, isV _, isV _, isV _, isV _, isV _, isV _, isV _, isV _, isV _, isV _, isV _, isV _, isV _] [[], [0], [1], [1, 2], [3], [4], [4], [4, 5, 6], [4], [4, 7, 8], [4, 9], [4, 10], [11], [12], [12], [12, 13, 14], [12], [12, 15, 16], [12, 17], [12, 18], [19], [20], [20], [20, 21, 22], [20, 23], [24], [25], [25], [25, 26, 27], [25, 28], [29], [30], [30, 31], [30, 32], [30, 33], [34]] (by kernel_rfl) (by kernel_rfl)
        case ho =>
          refine owes2_cons (fun wx hox => ?_) ?_
          · skip
            skip
            refine withs_plain rfl ?_
            simp only [withs, List.getElem?_cons_zero, List.getElem?_cons_succ, Option.bind, Option.getD]
            repeat (first | (with_reducible refine all_isV ?_) | (with_reducible refine all_isWC ?_; intro sx Ax kx cx hvx hwx) | (with_reducible refine all_isNR ?_; intro Ax kx cx hvx) | (with_reducible refine all_isNV ?_; intro Ax kx cx hvx) | (with_reducible refine all_isDV ?_; intro sx Ax kx cx hvx) | (with_reducible refine all_isWV ?_; intro sx Ax kx cx hvx) | (with_reducible refine all_isD ?_; intro sx Ax kx cx hvx hwx) | (with_reducible refine all_isRow ?_; intro gx' hbx) | (with_reducible refine all_isPtr ?_; intro gp' hbp hgp) | (with_reducible refine all_isRow1 ?_; intro gx' sr Ar kr cr hbx hvr))
            go_simp
            exact ⟨Only.refl _ _, isV.self _ _⟩
          refine owes2_cons (fun wx hox => ?_) ?_
          · skip
            skip
            refine withs_plain rfl ?_
            simp only [withs, List.getElem?_cons_zero, List.getElem?_cons_succ, Option.bind, Option.getD]
            repeat (first | (with_reducible refine all_isV ?_) | (with_reducible refine all_isWC ?_; intro sx Ax kx cx hvx hwx) | (with_reducible refine all_isNR ?_; intro Ax kx cx hvx) | (with_reducible refine all_isNV ?_; intro Ax kx cx hvx) | (with_reducible refine all_isDV ?_; intro sx Ax kx cx hvx) | (with_reducible refine all_isWV ?_; intro sx Ax kx cx hvx) | (with_reducible refine all_isD ?_; intro sx Ax kx cx hvx hwx) | (with_reducible refine all_isRow ?_; intro gx' hbx) | (with_reducible refine all_isPtr ?_; intro gp' hbp hgp) | (with_reducible refine all_isRow1 ?_; intro gx' sr Ar kr cr hbx hvr))
            go_simp
            exact ⟨Only.refl _ _, isV.self _ _⟩
          refine owes2_cons (fun wx hox => ?_) ?_
          · skip
            skip
            refine withs_guard rfl rfl ?_
            simp only [withs, List.getElem?_cons_zero, List.getElem?_cons_succ, Option.bind, Option.getD]
            repeat (first | (with_reducible refine all_isV ?_) | (with_reducible refine all_isWC ?_; intro sx Ax kx cx hvx hwx) | (with_reducible refine all_isNR ?_; intro Ax kx cx hvx) | (with_reducible refine all_isNV ?_; intro Ax kx cx hvx) | (with_reducible refine all_isDV ?_; intro sx Ax kx cx hvx) | (with_reducible refine all_isWV ?_; intro sx Ax kx cx hvx) | (with_reducible refine all_isD ?_; intro sx Ax kx cx hvx hwx) | (with_reducible refine all_isRow ?_; intro gx' hbx) | (with_reducible refine all_isPtr ?_; intro gp' hbp hgp) | (with_reducible refine all_isRow1 ?_; intro gx' sr Ar kr cr hbx hvr))
            refine ⟨by kernel_rfl, ?_⟩
            go_simp
            exact ⟨Only.refl _ _, isV.self _ _⟩
          refine owes2_cons (fun wx hox => ?_) ?_
          · skip
            skip
            refine withs_plain rfl ?_
            simp only [withs, List.getElem?_cons_zero, List.getElem?_cons_succ, Option.bind, Option.getD]
            repeat (first | (with_reducible refine all_isV ?_) | (with_reducible refine all_isWC ?_; intro sx Ax kx cx hvx hwx) | (with_reducible refine all_isNR ?_; intro Ax kx cx hvx) | (with_reducible refine all_isNV ?_; intro Ax kx cx hvx) | (with_reducible refine all_isDV ?_; intro sx Ax kx cx hvx) | (with_reducible refine all_isWV ?_; intro sx Ax kx cx hvx) | (with_reducible refine all_isD ?_; intro sx Ax kx cx hvx hwx) | (with_reducible refine all_isRow ?_; intro gx' hbx) | (with_reducible refine all_isPtr ?_; intro gp' hbp hgp) | (with_reducible refine all_isRow1 ?_; intro gx' sr Ar kr cr hbx hvr))
            go_simp
            exact ⟨Only.refl _ _, isV.self _ _⟩
          refine owes2_cons (fun wx hox => ?_) ?_
          · skip
            skip
            refine withs_plain rfl ?_
            simp only [withs, List.getElem?_cons_zero, List.getElem?_cons_succ, Option.bind, Option.getD]
            repeat (first | (with_reducible refine all_isV ?_) | (with_reducible refine all_isWC ?_; intro sx Ax kx cx hvx hwx) | (with_reducible refine all_isNR ?_; intro Ax kx cx hvx) | (with_reducible refine all_isNV ?_; intro Ax kx cx hvx) | (with_reducible refine all_isDV ?_; intro sx Ax kx cx hvx) | (with_reducible refine all_isWV ?_; intro sx Ax kx cx hvx) | (with_reducible refine all_isD ?_; intro sx Ax kx cx hvx hwx) | (with_reducible refine all_isRow ?_; intro gx' hbx) | (with_reducible refine all_isPtr ?_; intro gp' hbp hgp) | (with_reducible refine all_isRow1 ?_; intro gx' sr Ar kr cr hbx hvr))
            go_simp
            exact ⟨Only.refl _ _, isV.self _ _⟩
          refine owes2_cons (fun wx hox => ?_) ?_
          · skip
            have he := Lib.hid (HE.out.step hox)
            have htx := Lib.hid (hT.out.keep he.out.only)
            obtain ⟨i0, i1, i2, -, -, -⟩ := DB.cells he 5 rfl
            have ivx := DB.iv he 5 rfl
            obtain ⟨j0, j1, j2, -, -, -⟩ := DB.cells he 1 rfl
            have ivs := DB.iv he 1 rfl
            obtain ⟨k0, k1, k2, -, -, -⟩ := DB.cells he 0 rfl
            have ivt := DB.iv he 0 rfl
            clear he
            refine withs_guard rfl rfl ?_
            simp only [withs, List.getElem?_cons_zero, List.getElem?_cons_succ, Option.bind, Option.getD]
            repeat (first | (with_reducible refine all_isV ?_) | (with_reducible refine all_isWC ?_; intro sx Ax kx cx hvx hwx) | (with_reducible refine all_isNR ?_; intro Ax kx cx hvx) | (with_reducible refine all_isNV ?_; intro Ax kx cx hvx) | (with_reducible refine all_isDV ?_; intro sx Ax kx cx hvx) | (with_reducible refine all_isWV ?_; intro sx Ax kx cx hvx) | (with_reducible refine all_isD ?_; intro sx Ax kx cx hvx hwx) | (with_reducible refine all_isRow ?_; intro gx' hbx) | (with_reducible refine all_isPtr ?_; intro gp' hbp hgp) | (with_reducible refine all_isRow1 ?_; intro gx' sr Ar kr cr hbx hvr))
            refine ⟨by kernel_rfl, ?_⟩
            go_simp
            exact ⟨Only.refl _ _, isV.self _ _⟩
          refine owes2_cons (fun wx hox => ?_) ?_
          · skip
            have he := Lib.hid (HE.out.step hox)
            have htx := Lib.hid (hT.out.keep he.out.only)
            obtain ⟨i0, i1, i2, -, -, -⟩ := DB.cells he 5 rfl
            have ivx := DB.iv he 5 rfl
            obtain ⟨j0, j1, j2, -, -, -⟩ := DB.cells he 1 rfl
            have ivs := DB.iv he 1 rfl
            obtain ⟨k0, k1, k2, -, -, -⟩ := DB.cells he 0 rfl
            have ivt := DB.iv he 0 rfl
            clear he
            refine withs_guard rfl rfl ?_
            simp only [withs, List.getElem?_cons_zero, List.getElem?_cons_succ, Option.bind, Option.getD]
            repeat (first | (with_reducible refine all_isV ?_) | (with_reducible refine all_isWC ?_; intro sx Ax kx cx hvx hwx) | (with_reducible refine all_isNR ?_; intro Ax kx cx hvx) | (with_reducible refine all_isNV ?_; intro Ax kx cx hvx) | (with_reducible refine all_isDV ?_; intro sx Ax kx cx hvx) | (with_reducible refine all_isWV ?_; intro sx Ax kx cx hvx) | (with_reducible refine all_isD ?_; intro sx Ax kx cx hvx hwx) | (with_reducible refine all_isRow ?_; intro gx' hbx) | (with_reducible refine all_isPtr ?_; intro gp' hbp hgp) | (with_reducible refine all_isRow1 ?_; intro gx' sr Ar kr cr hbx hvr))
            refine ⟨by kernel_rfl, ?_⟩
            go_simp
            exact ⟨Only.refl _ _, isV.self _ _⟩
          refine owes2_cons (fun wx hox => ?_) ?_
          · skip
            have he := Lib.hid (HE.out.step hox)
            have htx := Lib.hid (hT.out.keep he.out.only)
            obtain ⟨i0, i1, i2, -, -, -⟩ := DB.cells he 5 rfl
            have ivx := DB.iv he 5 rfl
            obtain ⟨j0, j1, j2, -, -, -⟩ := DB.cells he 1 rfl
            have ivs := DB.iv he 1 rfl
            obtain ⟨k0, k1, k2, -, -, -⟩ := DB.cells he 0 rfl
            have ivt := DB.iv he 0 rfl
            clear he
            refine withs_guard rfl rfl ?_
            simp only [withs, List.getElem?_cons_zero, List.getElem?_cons_succ, Option.bind, Option.getD]
            repeat (first | (with_reducible refine all_isV ?_) | (with_reducible refine all_isWC ?_; intro sx Ax kx cx hvx hwx) | (with_reducible refine all_isNR ?_; intro Ax kx cx hvx) | (with_reducible refine all_isNV ?_; intro Ax kx cx hvx) | (with_reducible refine all_isDV ?_; intro sx Ax kx cx hvx) | (with_reducible refine all_isWV ?_; intro sx Ax kx cx hvx) | (with_reducible refine all_isD ?_; intro sx Ax kx cx hvx hwx) | (with_reducible refine all_isRow ?_; intro gx' hbx) | (with_reducible refine all_isPtr ?_; intro gp' hbp hgp) | (with_reducible refine all_isRow1 ?_; intro gx' sr Ar kr cr hbx hvr))
            refine ⟨by kernel_rfl, ?_⟩
            go_simp
            (with_reducible exact grow_d (mul_d (DV.of (by assumption)) (DV.of (by assumption)) BS BS (by omega) htx))
          refine owes2_cons (fun wx hox => ?_) ?_
          · skip
            have he := Lib.hid (HE.out.step hox)
            have htx := Lib.hid (hT.out.keep he.out.only)
            obtain ⟨i0, i1, i2, -, -, -⟩ := DB.cells he 5 rfl
            have ivx := DB.iv he 5 rfl
            obtain ⟨j0, j1, j2, -, -, -⟩ := DB.cells he 1 rfl
            have ivs := DB.iv he 1 rfl
            obtain ⟨k0, k1, k2, -, -, -⟩ := DB.cells he 0 rfl
            have ivt := DB.iv he 0 rfl
            clear he
            refine withs_guard rfl rfl ?_
            simp only [withs, List.getElem?_cons_zero, List.getElem?_cons_succ, Option.bind, Option.getD]
            repeat (first | (with_reducible refine all_isV ?_) | (with_reducible refine all_isWC ?_; intro sx Ax kx cx hvx hwx) | (with_reducible refine all_isNR ?_; intro Ax kx cx hvx) | (with_reducible refine all_isNV ?_; intro Ax kx cx hvx) | (with_reducible refine all_isDV ?_; intro sx Ax kx cx hvx) | (with_reducible refine all_isWV ?_; intro sx Ax kx cx hvx) | (with_reducible refine all_isD ?_; intro sx Ax kx cx hvx hwx) | (with_reducible refine all_isRow ?_; intro gx' hbx) | (with_reducible refine all_isPtr ?_; intro gp' hbp hgp) | (with_reducible refine all_isRow1 ?_; intro gx' sr Ar kr cr hbx hvr))
            refine ⟨by kernel_rfl, ?_⟩
            go_simp
            exact ⟨Only.refl _ _, isV.self _ _⟩
          refine owes2_cons (fun wx hox => ?_) ?_
          · skip
            have he := Lib.hid (HE.out.step hox)
            have htx := Lib.hid (hT.out.keep he.out.only)
            obtain ⟨i0, i1, i2, -, -, -⟩ := DB.cells he 5 rfl
            have ivx := DB.iv he 5 rfl
            obtain ⟨j0, j1, j2, -, -, -⟩ := DB.cells he 1 rfl
            have ivs := DB.iv he 1 rfl
            obtain ⟨k0, k1, k2, -, -, -⟩ := DB.cells he 0 rfl
            have ivt := DB.iv he 0 rfl
            clear he
            refine withs_guard rfl rfl ?_
            simp only [withs, List.getElem?_cons_zero, List.getElem?_cons_succ, Option.bind, Option.getD]
            repeat (first | (with_reducible refine all_isV ?_) | (with_reducible refine all_isWC ?_; intro sx Ax kx cx hvx hwx) | (with_reducible refine all_isNR ?_; intro Ax kx cx hvx) | (with_reducible refine all_isNV ?_; intro Ax kx cx hvx) | (with_reducible refine all_isDV ?_; intro sx Ax kx cx hvx) | (with_reducible refine all_isWV ?_; intro sx Ax kx cx hvx) | (with_reducible refine all_isD ?_; intro sx Ax kx cx hvx hwx) | (with_reducible refine all_isRow ?_; intro gx' hbx) | (with_reducible refine all_isPtr ?_; intro gp' hbp hgp) | (with_reducible refine all_isRow1 ?_; intro gx' sr Ar kr cr hbx hvr))
            refine ⟨by kernel_rfl, ?_⟩
            go_simp
            (with_reducible exact grow_of (cmpV_d (x := dMul s s) (y := x) kc4 (DV.of (by assumption)) (DV.of (by assumption)) BSS BXS (by omega) HK4.out))
          refine owes2_cons (fun wx hox => ?_) ?_
          · skip
            skip
            refine withs_guard rfl rfl ?_
            simp only [withs, List.getElem?_cons_zero, List.getElem?_cons_succ, Option.bind, Option.getD]
            repeat (first | (with_reducible refine all_isV ?_) | (with_reducible refine all_isWC ?_; intro sx Ax kx cx hvx hwx) | (with_reducible refine all_isNR ?_; intro Ax kx cx hvx) | (with_reducible refine all_isNV ?_; intro Ax kx cx hvx) | (with_reducible refine all_isDV ?_; intro sx Ax kx cx hvx) | (with_reducible refine all_isWV ?_; intro sx Ax kx cx hvx) | (with_reducible refine all_isD ?_; intro sx Ax kx cx hvx hwx) | (with_reducible refine all_isRow ?_; intro gx' hbx) | (with_reducible refine all_isPtr ?_; intro gp' hbp hgp) | (with_reducible refine all_isRow1 ?_; intro gx' sr Ar kr cr hbx hvr))
            refine ⟨by kernel_rfl, ?_⟩
            go_simp
            exact ⟨Only.refl _ _, isV.self _ _⟩
          refine owes2_cons (fun wx hox => ?_) ?_
          · skip
            skip
            refine withs_plain rfl ?_
            simp only [withs, List.getElem?_cons_zero, List.getElem?_cons_succ, Option.bind, Option.getD]
            repeat (first | (with_reducible refine all_isV ?_) | (with_reducible refine all_isWC ?_; intro sx Ax kx cx hvx hwx) | (with_reducible refine all_isNR ?_; intro Ax kx cx hvx) | (with_reducible refine all_isNV ?_; intro Ax kx cx hvx) | (with_reducible refine all_isDV ?_; intro sx Ax kx cx hvx) | (with_reducible refine all_isWV ?_; intro sx Ax kx cx hvx) | (with_reducible refine all_isD ?_; intro sx Ax kx cx hvx hwx) | (with_reducible refine all_isRow ?_; intro gx' hbx) | (with_reducible refine all_isPtr ?_; intro gp' hbp hgp) | (with_reducible refine all_isRow1 ?_; intro gx' sr Ar kr cr hbx hvr))
            go_simp
            exact ⟨Only.refl _ _, isV.self _ _⟩
          refine owes2_cons (fun wx hox => ?_) ?_
          · skip
            skip
            refine withs_plain rfl ?_
            simp only [withs, List.getElem?_cons_zero, List.getElem?_cons_succ, Option.bind, Option.getD]
            repeat (first | (with_reducible refine all_isV ?_) | (with_reducible refine all_isWC ?_; intro sx Ax kx cx hvx hwx) | (with_reducible refine all_isNR ?_; intro Ax kx cx hvx) | (with_reducible refine all_isNV ?_; intro Ax kx cx hvx) | (with_reducible refine all_isDV ?_; intro sx Ax kx cx hvx) | (with_reducible refine all_isWV ?_; intro sx Ax kx cx hvx) | (with_reducible refine all_isD ?_; intro sx Ax kx cx hvx hwx) | (with_reducible refine all_isRow ?_; intro gx' hbx) | (with_reducible refine all_isPtr ?_; intro gp' hbp hgp) | (with_reducible refine all_isRow1 ?_; intro gx' sr Ar kr cr hbx hvr))
            go_simp
            exact ⟨Only.refl _ _, isV.self _ _⟩
          refine owes2_cons (fun wx hox => ?_) ?_
          · skip
            have he := Lib.hid (HE.out.step hox)
            have htx := Lib.hid (hT.out.keep he.out.only)
            obtain ⟨i0, i1, i2, -, -, -⟩ := DB.cells he 5 rfl
            have ivx := DB.iv he 5 rfl
            obtain ⟨j0, j1, j2, -, -, -⟩ := DB.cells he 1 rfl
            have ivs := DB.iv he 1 rfl
            obtain ⟨k0, k1, k2, -, -, -⟩ := DB.cells he 0 rfl
            have ivt := DB.iv he 0 rfl
            clear he
            refine withs_guard rfl rfl ?_
            simp only [withs, List.getElem?_cons_zero, List.getElem?_cons_succ, Option.bind, Option.getD]
            repeat (first | (with_reducible refine all_isV ?_) | (with_reducible refine all_isWC ?_; intro sx Ax kx cx hvx hwx) | (with_reducible refine all_isNR ?_; intro Ax kx cx hvx) | (with_reducible refine all_isNV ?_; intro Ax kx cx hvx) | (with_reducible refine all_isDV ?_; intro sx Ax kx cx hvx) | (with_reducible refine all_isWV ?_; intro sx Ax kx cx hvx) | (with_reducible refine all_isD ?_; intro sx Ax kx cx hvx hwx) | (with_reducible refine all_isRow ?_; intro gx' hbx) | (with_reducible refine all_isPtr ?_; intro gp' hbp hgp) | (with_reducible refine all_isRow1 ?_; intro gx' sr Ar kr cr hbx hvr))
            refine ⟨by kernel_rfl, ?_⟩
            go_simp
            exact ⟨Only.refl _ _, isV.self _ _⟩
          refine owes2_cons (fun wx hox => ?_) ?_
          · skip
            have he := Lib.hid (HE.out.step hox)
            have htx := Lib.hid (hT.out.keep he.out.only)
            obtain ⟨i0, i1, i2, -, -, -⟩ := DB.cells he 5 rfl
            have ivx := DB.iv he 5 rfl
            obtain ⟨j0, j1, j2, -, -, -⟩ := DB.cells he 1 rfl
            have ivs := DB.iv he 1 rfl
            obtain ⟨k0, k1, k2, -, -, -⟩ := DB.cells he 0 rfl
            have ivt := DB.iv he 0 rfl
            clear he
            refine withs_guard rfl rfl ?_
            simp only [withs, List.getElem?_cons_zero, List.getElem?_cons_succ, Option.bind, Option.getD]
            repeat (first | (with_reducible refine all_isV ?_) | (with_reducible refine all_isWC ?_; intro sx Ax kx cx hvx hwx) | (with_reducible refine all_isNR ?_; intro Ax kx cx hvx) | (with_reducible refine all_isNV ?_; intro Ax kx cx hvx) | (with_reducible refine all_isDV ?_; intro sx Ax kx cx hvx) | (with_reducible refine all_isWV ?_; intro sx Ax kx cx hvx) | (with_reducible refine all_isD ?_; intro sx Ax kx cx hvx hwx) | (with_reducible refine all_isRow ?_; intro gx' hbx) | (with_reducible refine all_isPtr ?_; intro gp' hbp hgp) | (with_reducible refine all_isRow1 ?_; intro gx' sr Ar kr cr hbx hvr))
            refine ⟨by kernel_rfl, ?_⟩
            go_simp
            exact ⟨Only.refl _ _, isV.self _ _⟩
          refine owes2_cons (fun wx hox => ?_) ?_
          · skip
            have he := Lib.hid (HE.out.step hox)
            have htx := Lib.hid (hT.out.keep he.out.only)
            obtain ⟨i0, i1, i2, -, -, -⟩ := DB.cells he 5 rfl
            have ivx := DB.iv he 5 rfl
            obtain ⟨j0, j1, j2, -, -, -⟩ := DB.cells he 1 rfl
            have ivs := DB.iv he 1 rfl
            obtain ⟨k0, k1, k2, -, -, -⟩ := DB.cells he 0 rfl
            have ivt := DB.iv he 0 rfl
            clear he
            refine withs_guard rfl rfl ?_
            simp only [withs, List.getElem?_cons_zero, List.getElem?_cons_succ, Option.bind, Option.getD]
            repeat (first | (with_reducible refine all_isV ?_) | (with_reducible refine all_isWC ?_; intro sx Ax kx cx hvx hwx) | (with_reducible refine all_isNR ?_; intro Ax kx cx hvx) | (with_reducible refine all_isNV ?_; intro Ax kx cx hvx) | (with_reducible refine all_isDV ?_; intro sx Ax kx cx hvx) | (with_reducible refine all_isWV ?_; intro sx Ax kx cx hvx) | (with_reducible refine all_isD ?_; intro sx Ax kx cx hvx hwx) | (with_reducible refine all_isRow ?_; intro gx' hbx) | (with_reducible refine all_isPtr ?_; intro gp' hbp hgp) | (with_reducible refine all_isRow1 ?_; intro gx' sr Ar kr cr hbx hvr))
            refine ⟨by kernel_rfl, ?_⟩
            go_simp
            (with_reducible exact grow_d (mul_d (DV.of (by assumption)) (DV.of (by assumption)) BT BT (by omega) htx))
          refine owes2_cons (fun wx hox => ?_) ?_
          · skip
            have he := Lib.hid (HE.out.step hox)
            have htx := Lib.hid (hT.out.keep he.out.only)
            obtain ⟨i0, i1, i2, -, -, -⟩ := DB.cells he 5 rfl
            have ivx := DB.iv he 5 rfl
            obtain ⟨j0, j1, j2, -, -, -⟩ := DB.cells he 1 rfl
            have ivs := DB.iv he 1 rfl
            obtain ⟨k0, k1, k2, -, -, -⟩ := DB.cells he 0 rfl
            have ivt := DB.iv he 0 rfl
            clear he
            refine withs_guard rfl rfl ?_
            simp only [withs, List.getElem?_cons_zero, List.getElem?_cons_succ, Option.bind, Option.getD]
            repeat (first | (with_reducible refine all_isV ?_) | (with_reducible refine all_isWC ?_; intro sx Ax kx cx hvx hwx) | (with_reducible refine all_isNR ?_; intro Ax kx cx hvx) | (with_reducible refine all_isNV ?_; intro Ax kx cx hvx) | (with_reducible refine all_isDV ?_; intro sx Ax kx cx hvx) | (with_reducible refine all_isWV ?_; intro sx Ax kx cx hvx) | (with_reducible refine all_isD ?_; intro sx Ax kx cx hvx hwx) | (with_reducible refine all_isRow ?_; intro gx' hbx) | (with_reducible refine all_isPtr ?_; intro gp' hbp hgp) | (with_reducible refine all_isRow1 ?_; intro gx' sr Ar kr cr hbx hvr))
            refine ⟨by kernel_rfl, ?_⟩
            go_simp
            exact ⟨Only.refl _ _, isV.self _ _⟩
          refine owes2_cons (fun wx hox => ?_) ?_
          · skip
            have he := Lib.hid (HE.out.step hox)
            have htx := Lib.hid (hT.out.keep he.out.only)
            obtain ⟨i0, i1, i2, -, -, -⟩ := DB.cells he 5 rfl
            have ivx := DB.iv he 5 rfl
            obtain ⟨j0, j1, j2, -, -, -⟩ := DB.cells he 1 rfl
            have ivs := DB.iv he 1 rfl
            obtain ⟨k0, k1, k2, -, -, -⟩ := DB.cells he 0 rfl
            have ivt := DB.iv he 0 rfl
            clear he
            refine withs_guard rfl rfl ?_
            simp only [withs, List.getElem?_cons_zero, List.getElem?_cons_succ, Option.bind, Option.getD]
            repeat (first | (with_reducible refine all_isV ?_) | (with_reducible refine all_isWC ?_; intro sx Ax kx cx hvx hwx) | (with_reducible refine all_isNR ?_; intro Ax kx cx hvx) | (with_reducible refine all_isNV ?_; intro Ax kx cx hvx) | (with_reducible refine all_isDV ?_; intro sx Ax kx cx hvx) | (with_reducible refine all_isWV ?_; intro sx Ax kx cx hvx) | (with_reducible refine all_isD ?_; intro sx Ax kx cx hvx hwx) | (with_reducible refine all_isRow ?_; intro gx' hbx) | (with_reducible refine all_isPtr ?_; intro gp' hbp hgp) | (with_reducible refine all_isRow1 ?_; intro gx' sr Ar kr cr hbx hvr))
            refine ⟨by kernel_rfl, ?_⟩
            go_simp
            (with_reducible exact grow_of (cmpV_d (x := dMul t t) (y := x) kc5 (DV.of (by assumption)) (DV.of (by assumption)) BTT BXS (by omega) HK5.out))
          refine owes2_cons (fun wx hox => ?_) ?_
          · skip
            skip
            refine withs_guard rfl rfl ?_
            simp only [withs, List.getElem?_cons_zero, List.getElem?_cons_succ, Option.bind, Option.getD]
            repeat (first | (with_reducible refine all_isV ?_) | (with_reducible refine all_isWC ?_; intro sx Ax kx cx hvx hwx) | (with_reducible refine all_isNR ?_; intro Ax kx cx hvx) | (with_reducible refine all_isNV ?_; intro Ax kx cx hvx) | (with_reducible refine all_isDV ?_; intro sx Ax kx cx hvx) | (with_reducible refine all_isWV ?_; intro sx Ax kx cx hvx) | (with_reducible refine all_isD ?_; intro sx Ax kx cx hvx hwx) | (with_reducible refine all_isRow ?_; intro gx' hbx) | (with_reducible refine all_isPtr ?_; intro gp' hbp hgp) | (with_reducible refine all_isRow1 ?_; intro gx' sr Ar kr cr hbx hvr))
            refine ⟨by kernel_rfl, ?_⟩
            go_simp
            exact ⟨Only.refl _ _, isV.self _ _⟩
          refine owes2_cons (fun wx hox => ?_) ?_
          · skip
            skip
            refine withs_plain rfl ?_
            simp only [withs, List.getElem?_cons_zero, List.getElem?_cons_succ, Option.bind, Option.getD]
            repeat (first | (with_reducible refine all_isV ?_) | (with_reducible refine all_isWC ?_; intro sx Ax kx cx hvx hwx) | (with_reducible refine all_isNR ?_; intro Ax kx cx hvx) | (with_reducible refine all_isNV ?_; intro Ax kx cx hvx) | (with_reducible refine all_isDV ?_; intro sx Ax kx cx hvx) | (with_reducible refine all_isWV ?_; intro sx Ax kx cx hvx) | (with_reducible refine all_isD ?_; intro sx Ax kx cx hvx hwx) | (with_reducible refine all_isRow ?_; intro gx' hbx) | (with_reducible refine all_isPtr ?_; intro gp' hbp hgp) | (with_reducible refine all_isRow1 ?_; intro gx' sr Ar kr cr hbx hvr))
            go_simp
            exact ⟨Only.refl _ _, isV.self _ _⟩
          refine owes2_cons (fun wx hox => ?_) ?_
          · skip
            skip
            refine withs_plain rfl ?_
            simp only [withs, List.getElem?_cons_zero, List.getElem?_cons_succ, Option.bind, Option.getD]
            repeat (first | (with_reducible refine all_isV ?_) | (with_reducible refine all_isWC ?_; intro sx Ax kx cx hvx hwx) | (with_reducible refine all_isNR ?_; intro Ax kx cx hvx) | (with_reducible refine all_isNV ?_; intro Ax kx cx hvx) | (with_reducible refine all_isDV ?_; intro sx Ax kx cx hvx) | (with_reducible refine all_isWV ?_; intro sx Ax kx cx hvx) | (with_reducible refine all_isD ?_; intro sx Ax kx cx hvx hwx) | (with_reducible refine all_isRow ?_; intro gx' hbx) | (with_reducible refine all_isPtr ?_; intro gp' hbp hgp) | (with_reducible refine all_isRow1 ?_; intro gx' sr Ar kr cr hbx hvr))
            go_simp
            exact ⟨Only.refl _ _, isV.self _ _⟩
          refine owes2_cons (fun wx hox => ?_) ?_
          · skip
            have he := Lib.hid (HE.out.step hox)
            have htx := Lib.hid (hT.out.keep he.out.only)
            obtain ⟨i0, i1, i2, -, -, -⟩ := DB.cells he 5 rfl
            have ivx := DB.iv he 5 rfl
            obtain ⟨j0, j1, j2, -, -, -⟩ := DB.cells he 1 rfl
            have ivs := DB.iv he 1 rfl
            obtain ⟨k0, k1, k2, -, -, -⟩ := DB.cells he 0 rfl
            have ivt := DB.iv he 0 rfl
            clear he
            refine withs_guard rfl rfl ?_
            simp only [withs, List.getElem?_cons_zero, List.getElem?_cons_succ, Option.bind, Option.getD]
            repeat (first | (with_reducible refine all_isV ?_) | (with_reducible refine all_isWC ?_; intro sx Ax kx cx hvx hwx) | (with_reducible refine all_isNR ?_; intro Ax kx cx hvx) | (with_reducible refine all_isNV ?_; intro Ax kx cx hvx) | (with_reducible refine all_isDV ?_; intro sx Ax kx cx hvx) | (with_reducible refine all_isWV ?_; intro sx Ax kx cx hvx) | (with_reducible refine all_isD ?_; intro sx Ax kx cx hvx hwx) | (with_reducible refine all_isRow ?_; intro gx' hbx) | (with_reducible refine all_isPtr ?_; intro gp' hbp hgp) | (with_reducible refine all_isRow1 ?_; intro gx' sr Ar kr cr hbx hvr))
            refine ⟨by kernel_rfl, ?_⟩
            go_simp
            exact ⟨Only.refl _ _, isV.self _ _⟩
          refine owes2_cons (fun wx hox => ?_) ?_
          · skip
            skip
            refine withs_guard rfl rfl ?_
            simp only [withs, List.getElem?_cons_zero, List.getElem?_cons_succ, Option.bind, Option.getD]
            repeat (first | (with_reducible refine all_isV ?_) | (with_reducible refine all_isWC ?_; intro sx Ax kx cx hvx hwx) | (with_reducible refine all_isNR ?_; intro Ax kx cx hvx) | (with_reducible refine all_isNV ?_; intro Ax kx cx hvx) | (with_reducible refine all_isDV ?_; intro sx Ax kx cx hvx) | (with_reducible refine all_isWV ?_; intro sx Ax kx cx hvx) | (with_reducible refine all_isD ?_; intro sx Ax kx cx hvx hwx) | (with_reducible refine all_isRow ?_; intro gx' hbx) | (with_reducible refine all_isPtr ?_; intro gp' hbp hgp) | (with_reducible refine all_isRow1 ?_; intro gx' sr Ar kr cr hbx hvr))
            refine ⟨by kernel_rfl, ?_⟩
            go_simp
            exact ⟨Only.refl _ _, isV.self _ _⟩
          refine owes2_cons (fun wx hox => ?_) ?_
          · skip
            have he := Lib.hid (HE.out.step hox)
            have htx := Lib.hid (hT.out.keep he.out.only)
            obtain ⟨i0, i1, i2, -, -, -⟩ := DB.cells he 5 rfl
            have ivx := DB.iv he 5 rfl
            obtain ⟨j0, j1, j2, -, -, -⟩ := DB.cells he 1 rfl
            have ivs := DB.iv he 1 rfl
            obtain ⟨k0, k1, k2, -, -, -⟩ := DB.cells he 0 rfl
            have ivt := DB.iv he 0 rfl
            clear he
            refine withs_guard rfl rfl ?_
            simp only [withs, List.getElem?_cons_zero, List.getElem?_cons_succ, Option.bind, Option.getD]
            repeat (first | (with_reducible refine all_isV ?_) | (with_reducible refine all_isWC ?_; intro sx Ax kx cx hvx hwx) | (with_reducible refine all_isNR ?_; intro Ax kx cx hvx) | (with_reducible refine all_isNV ?_; intro Ax kx cx hvx) | (with_reducible refine all_isDV ?_; intro sx Ax kx cx hvx) | (with_reducible refine all_isWV ?_; intro sx Ax kx cx hvx) | (with_reducible refine all_isD ?_; intro sx Ax kx cx hvx hwx) | (with_reducible refine all_isRow ?_; intro gx' hbx) | (with_reducible refine all_isPtr ?_; intro gp' hbp hgp) | (with_reducible refine all_isRow1 ?_; intro gx' sr Ar kr cr hbx hvr))
            refine ⟨by kernel_rfl, ?_⟩
            go_simp
            (with_reducible exact grow_of (short3V_any (x := s) p true (DV.of (by assumption)) HSS.out))
          refine owes2_cons (fun wx hox => ?_) ?_
          · skip
            skip
            refine withs_plain rfl ?_
            simp only [withs, List.getElem?_cons_zero, List.getElem?_cons_succ, Option.bind, Option.getD]
            repeat (first | (with_reducible refine all_isV ?_) | (with_reducible refine all_isWC ?_; intro sx Ax kx cx hvx hwx) | (with_reducible refine all_isNR ?_; intro Ax kx cx hvx) | (with_reducible refine all_isNV ?_; intro Ax kx cx hvx) | (with_reducible refine all_isDV ?_; intro sx Ax kx cx hvx) | (with_reducible refine all_isWV ?_; intro sx Ax kx cx hvx) | (with_reducible refine all_isD ?_; intro sx Ax kx cx hvx hwx) | (with_reducible refine all_isRow ?_; intro gx' hbx) | (with_reducible refine all_isPtr ?_; intro gp' hbp hgp) | (with_reducible refine all_isRow1 ?_; intro gx' sr Ar kr cr hbx hvr))
            go_simp
            exact ⟨Only.refl _ _, isV.self _ _⟩
          refine owes2_cons (fun wx hox => ?_) ?_
          · skip
            skip
            refine withs_plain rfl ?_
            simp only [withs, List.getElem?_cons_zero, List.getElem?_cons_succ, Option.bind, Option.getD]
            repeat (first | (with_reducible refine all_isV ?_) | (with_reducible refine all_isWC ?_; intro sx Ax kx cx hvx hwx) | (with_reducible refine all_isNR ?_; intro Ax kx cx hvx) | (with_reducible refine all_isNV ?_; intro Ax kx cx hvx) | (with_reducible refine all_isDV ?_; intro sx Ax kx cx hvx) | (with_reducible refine all_isWV ?_; intro sx Ax kx cx hvx) | (with_reducible refine all_isD ?_; intro sx Ax kx cx hvx hwx) | (with_reducible refine all_isRow ?_; intro gx' hbx) | (with_reducible refine all_isPtr ?_; intro gp' hbp hgp) | (with_reducible refine all_isRow1 ?_; intro gx' sr Ar kr cr hbx hvr))
            go_simp
            exact ⟨Only.refl _ _, isV.self _ _⟩
          refine owes2_cons (fun wx hox => ?_) ?_
          · skip
            have he := Lib.hid (HE.out.step hox)
            have htx := Lib.hid (hT.out.keep he.out.only)
            obtain ⟨i0, i1, i2, -, -, -⟩ := DB.cells he 5 rfl
            have ivx := DB.iv he 5 rfl
            obtain ⟨j0, j1, j2, -, -, -⟩ := DB.cells he 1 rfl
            have ivs := DB.iv he 1 rfl
            obtain ⟨k0, k1, k2, -, -, -⟩ := DB.cells he 0 rfl
            have ivt := DB.iv he 0 rfl
            clear he
            refine withs_guard rfl rfl ?_
            simp only [withs, List.getElem?_cons_zero, List.getElem?_cons_succ, Option.bind, Option.getD]
            repeat (first | (with_reducible refine all_isV ?_) | (with_reducible refine all_isWC ?_; intro sx Ax kx cx hvx hwx) | (with_reducible refine all_isNR ?_; intro Ax kx cx hvx) | (with_reducible refine all_isNV ?_; intro Ax kx cx hvx) | (with_reducible refine all_isDV ?_; intro sx Ax kx cx hvx) | (with_reducible refine all_isWV ?_; intro sx Ax kx cx hvx) | (with_reducible refine all_isD ?_; intro sx Ax kx cx hvx hwx) | (with_reducible refine all_isRow ?_; intro gx' hbx) | (with_reducible refine all_isPtr ?_; intro gp' hbp hgp) | (with_reducible refine all_isRow1 ?_; intro gx' sr Ar kr cr hbx hvr))
            refine ⟨by kernel_rfl, ?_⟩
            go_simp
            exact ⟨Only.refl _ _, isV.self _ _⟩
          refine owes2_cons (fun wx hox => ?_) ?_
          · skip
            skip
            refine withs_guard rfl rfl ?_
            simp only [withs, List.getElem?_cons_zero, List.getElem?_cons_succ, Option.bind, Option.getD]
            repeat (first | (with_reducible refine all_isV ?_) | (with_reducible refine all_isWC ?_; intro sx Ax kx cx hvx hwx) | (with_reducible refine all_isNR ?_; intro Ax kx cx hvx) | (with_reducible refine all_isNV ?_; intro Ax kx cx hvx) | (with_reducible refine all_isDV ?_; intro sx Ax kx cx hvx) | (with_reducible refine all_isWV ?_; intro sx Ax kx cx hvx) | (with_reducible refine all_isD ?_; intro sx Ax kx cx hvx hwx) | (with_reducible refine all_isRow ?_; intro gx' hbx) | (with_reducible refine all_isPtr ?_; intro gp' hbp hgp) | (with_reducible refine all_isRow1 ?_; intro gx' sr Ar kr cr hbx hvr))
            refine ⟨by kernel_rfl, ?_⟩
            go_simp
            exact ⟨Only.refl _ _, isV.self _ _⟩
          refine owes2_cons (fun wx hox => ?_) ?_
          · skip
            have he := Lib.hid (HE.out.step hox)
            have htx := Lib.hid (hT.out.keep he.out.only)
            obtain ⟨i0, i1, i2, -, -, -⟩ := DB.cells he 5 rfl
            have ivx := DB.iv he 5 rfl
            obtain ⟨j0, j1, j2, -, -, -⟩ := DB.cells he 1 rfl
            have ivs := DB.iv he 1 rfl
            obtain ⟨k0, k1, k2, -, -, -⟩ := DB.cells he 0 rfl
            have ivt := DB.iv he 0 rfl
            clear he
            refine withs_guard rfl rfl ?_
            simp only [withs, List.getElem?_cons_zero, List.getElem?_cons_succ, Option.bind, Option.getD]
            repeat (first | (with_reducible refine all_isV ?_) | (with_reducible refine all_isWC ?_; intro sx Ax kx cx hvx hwx) | (with_reducible refine all_isNR ?_; intro Ax kx cx hvx) | (with_reducible refine all_isNV ?_; intro Ax kx cx hvx) | (with_reducible refine all_isDV ?_; intro sx Ax kx cx hvx) | (with_reducible refine all_isWV ?_; intro sx Ax kx cx hvx) | (with_reducible refine all_isD ?_; intro sx Ax kx cx hvx hwx) | (with_reducible refine all_isRow ?_; intro gx' hbx) | (with_reducible refine all_isPtr ?_; intro gp' hbp hgp) | (with_reducible refine all_isRow1 ?_; intro gx' sr Ar kr cr hbx hvr))
            refine ⟨by kernel_rfl, ?_⟩
            go_simp
            (with_reducible exact grow_of (short3V_any (x := t) p true (DV.of (by assumption)) HST.out))
          refine owes2_cons (fun wx hox => ?_) ?_
          · skip
            skip
            refine withs_plain rfl ?_
            simp only [withs, List.getElem?_cons_zero, List.getElem?_cons_succ, Option.bind, Option.getD]
            repeat (first | (with_reducible refine all_isV ?_) | (with_reducible refine all_isWC ?_; intro sx Ax kx cx hvx hwx) | (with_reducible refine all_isNR ?_; intro Ax kx cx hvx) | (with_reducible refine all_isNV ?_; intro Ax kx cx hvx) | (with_reducible refine all_isDV ?_; intro sx Ax kx cx hvx) | (with_reducible refine all_isWV ?_; intro sx Ax kx cx hvx) | (with_reducible refine all_isD ?_; intro sx Ax kx cx hvx hwx) | (with_reducible refine all_isRow ?_; intro gx' hbx) | (with_reducible refine all_isPtr ?_; intro gp' hbp hgp) | (with_reducible refine all_isRow1 ?_; intro gx' sr Ar kr cr hbx hvr))
            go_simp
            exact ⟨Only.refl _ _, isV.self _ _⟩
          refine owes2_cons (fun wx hox => ?_) ?_
          · skip
            skip
            refine withs_plain rfl ?_
            simp only [withs, List.getElem?_cons_zero, List.getElem?_cons_succ, Option.bind, Option.getD]
            repeat (first | (with_reducible refine all_isV ?_) | (with_reducible refine all_isWC ?_; intro sx Ax kx cx hvx hwx) | (with_reducible refine all_isNR ?_; intro Ax kx cx hvx) | (with_reducible refine all_isNV ?_; intro Ax kx cx hvx) | (with_reducible refine all_isDV ?_; intro sx Ax kx cx hvx) | (with_reducible refine all_isWV ?_; intro sx Ax kx cx hvx) | (with_reducible refine all_isD ?_; intro sx Ax kx cx hvx hwx) | (with_reducible refine all_isRow ?_; intro gx' hbx) | (with_reducible refine all_isPtr ?_; intro gp' hbp hgp) | (with_reducible refine all_isRow1 ?_; intro gx' sr Ar kr cr hbx hvr))
            go_simp
            exact ⟨Only.refl _ _, isV.self _ _⟩
          refine owes2_cons (fun wx hox => ?_) ?_
          · skip
            have he := Lib.hid (HE.out.step hox)
            have htx := Lib.hid (hT.out.keep he.out.only)
            obtain ⟨i0, i1, i2, -, -, -⟩ := DB.cells he 5 rfl
            have ivx := DB.iv he 5 rfl
            obtain ⟨j0, j1, j2, -, -, -⟩ := DB.cells he 1 rfl
            have ivs := DB.iv he 1 rfl
            obtain ⟨k0, k1, k2, -, -, -⟩ := DB.cells he 0 rfl
            have ivt := DB.iv he 0 rfl
            clear he
            refine withs_guard rfl rfl ?_
            simp only [withs, List.getElem?_cons_zero, List.getElem?_cons_succ, Option.bind, Option.getD]
            repeat (first | (with_reducible refine all_isV ?_) | (with_reducible refine all_isWC ?_; intro sx Ax kx cx hvx hwx) | (with_reducible refine all_isNR ?_; intro Ax kx cx hvx) | (with_reducible refine all_isNV ?_; intro Ax kx cx hvx) | (with_reducible refine all_isDV ?_; intro sx Ax kx cx hvx) | (with_reducible refine all_isWV ?_; intro sx Ax kx cx hvx) | (with_reducible refine all_isD ?_; intro sx Ax kx cx hvx hwx) | (with_reducible refine all_isRow ?_; intro gx' hbx) | (with_reducible refine all_isPtr ?_; intro gp' hbp hgp) | (with_reducible refine all_isRow1 ?_; intro gx' sr Ar kr cr hbx hvr))
            refine ⟨by kernel_rfl, ?_⟩
            go_simp
            exact ⟨Only.refl _ _, isV.self _ _⟩
          refine owes2_cons (fun wx hox => ?_) ?_
          · skip
            have he := Lib.hid (HE.out.step hox)
            have htx := Lib.hid (hT.out.keep he.out.only)
            obtain ⟨i0, i1, i2, -, -, -⟩ := DB.cells he 5 rfl
            have ivx := DB.iv he 5 rfl
            obtain ⟨j0, j1, j2, -, -, -⟩ := DB.cells he 1 rfl
            have ivs := DB.iv he 1 rfl
            obtain ⟨k0, k1, k2, -, -, -⟩ := DB.cells he 0 rfl
            have ivt := DB.iv he 0 rfl
            clear he
            refine withs_guard rfl rfl ?_
            simp only [withs, List.getElem?_cons_zero, List.getElem?_cons_succ, Option.bind, Option.getD]
            repeat (first | (with_reducible refine all_isV ?_) | (with_reducible refine all_isWC ?_; intro sx Ax kx cx hvx hwx) | (with_reducible refine all_isNR ?_; intro Ax kx cx hvx) | (with_reducible refine all_isNV ?_; intro Ax kx cx hvx) | (with_reducible refine all_isDV ?_; intro sx Ax kx cx hvx) | (with_reducible refine all_isWV ?_; intro sx Ax kx cx hvx) | (with_reducible refine all_isD ?_; intro sx Ax kx cx hvx hwx) | (with_reducible refine all_isRow ?_; intro gx' hbx) | (with_reducible refine all_isPtr ?_; intro gp' hbp hgp) | (with_reducible refine all_isRow1 ?_; intro gx' sr Ar kr cr hbx hvr))
            refine ⟨by kernel_rfl, ?_⟩
            go_simp
            (with_reducible exact grow_of (signV_d (x := s) ps (DV.of (by assumption)) HPS.out))
          refine owes2_cons (fun wx hox => ?_) ?_
          · skip
            skip
            refine withs_guard rfl rfl ?_
            simp only [withs, List.getElem?_cons_zero, List.getElem?_cons_succ, Option.bind, Option.getD]
            repeat (first | (with_reducible refine all_isV ?_) | (with_reducible refine all_isWC ?_; intro sx Ax kx cx hvx hwx) | (with_reducible refine all_isNR ?_; intro Ax kx cx hvx) | (with_reducible refine all_isNV ?_; intro Ax kx cx hvx) | (with_reducible refine all_isDV ?_; intro sx Ax kx cx hvx) | (with_reducible refine all_isWV ?_; intro sx Ax kx cx hvx) | (with_reducible refine all_isD ?_; intro sx Ax kx cx hvx hwx) | (with_reducible refine all_isRow ?_; intro gx' hbx) | (with_reducible refine all_isPtr ?_; intro gp' hbp hgp) | (with_reducible refine all_isRow1 ?_; intro gx' sr Ar kr cr hbx hvr))
            refine ⟨by kernel_rfl, ?_⟩
            go_simp
            exact ⟨Only.refl _ _, isV.self _ _⟩
          refine owes2_cons (fun wx hox => ?_) ?_
          · skip
            skip
            refine withs_plain rfl ?_
            simp only [withs, List.getElem?_cons_zero, List.getElem?_cons_succ, Option.bind, Option.getD]
            repeat (first | (with_reducible refine all_isV ?_) | (with_reducible refine all_isWC ?_; intro sx Ax kx cx hvx hwx) | (with_reducible refine all_isNR ?_; intro Ax kx cx hvx) | (with_reducible refine all_isNV ?_; intro Ax kx cx hvx) | (with_reducible refine all_isDV ?_; intro sx Ax kx cx hvx) | (with_reducible refine all_isWV ?_; intro sx Ax kx cx hvx) | (with_reducible refine all_isD ?_; intro sx Ax kx cx hvx hwx) | (with_reducible refine all_isRow ?_; intro gx' hbx) | (with_reducible refine all_isPtr ?_; intro gp' hbp hgp) | (with_reducible refine all_isRow1 ?_; intro gx' sr Ar kr cr hbx hvr))
            go_simp
            exact ⟨Only.refl _ _, isV.self _ _⟩
          refine owes2_cons (fun wx hox => ?_) ?_
          · skip
            skip
            refine withs_plain rfl ?_
            simp only [withs, List.getElem?_cons_zero, List.getElem?_cons_succ, Option.bind, Option.getD]
            repeat (first | (with_reducible refine all_isV ?_) | (with_reducible refine all_isWC ?_; intro sx Ax kx cx hvx hwx) | (with_reducible refine all_isNR ?_; intro Ax kx cx hvx) | (with_reducible refine all_isNV ?_; intro Ax kx cx hvx) | (with_reducible refine all_isDV ?_; intro sx Ax kx cx hvx) | (with_reducible refine all_isWV ?_; intro sx Ax kx cx hvx) | (with_reducible refine all_isD ?_; intro sx Ax kx cx hvx hwx) | (with_reducible refine all_isRow ?_; intro gx' hbx) | (with_reducible refine all_isPtr ?_; intro gp' hbp hgp) | (with_reducible refine all_isRow1 ?_; intro gx' sr Ar kr cr hbx hvr))
            go_simp
            exact ⟨Only.refl _ _, isV.self _ _⟩
          exact owes2_nil
        case he =>
          intro wx hox
          refine withs_of (by simp only [List.length, List.range, List.range.loop]; exact rfl) ?_
          simp only [withs, List.getElem?_cons_zero, List.getElem?_cons_succ, Option.bind, Option.getD]
          repeat (first | (with_reducible refine all_isV ?_) | (with_reducible refine all_isWC ?_; intro sx Ax kx cx hvx hwx) | (with_reducible refine all_isNR ?_; intro Ax kx cx hvx) | (with_reducible refine all_isNV ?_; intro Ax kx cx hvx) | (with_reducible refine all_isDV ?_; intro sx Ax kx cx hvx) | (with_reducible refine all_isWV ?_; intro sx Ax kx cx hvx) | (with_reducible refine all_isD ?_; intro sx Ax kx cx hvx hwx) | (with_reducible refine all_isRow ?_; intro gx' hbx) | (with_reducible refine all_isPtr ?_; intro gp' hbp hgp) | (with_reducible refine all_isRow1 ?_; intro gx' sr Ar kr cr hbx hvr))
          go_simp
          go_wp2_with fail
          go_ret
          exact ⟨rfl, HE.out.only.nil_trans hox⟩
        case hl =>
          repeat (refine List.forall_mem_cons.2 ⟨?_, ?_⟩; first | exact isV.lasts _ | exact isD.lasts _ | exact isNV.lasts _ | exact isDV.lasts _ | exact isWV.lasts _ | exact isWC.lasts _ | exact isNR.lasts _ _ | exact isWR.lasts _ _ | exact isRow.lasts _ _ _ | exact isPtr.lasts _ _ _ | exact isRow1.lasts _)
          exact fun _ h => (by cases h)
    case hl =>
      repeat (refine List.forall_mem_cons.2 ⟨?_, ?_⟩; first | exact isV.lasts _ | exact isD.lasts _ | exact isNV.lasts _ | exact isDV.lasts _ | exact isWV.lasts _ | exact isWC.lasts _ | exact isNR.lasts _ _ | exact isWR.lasts _ _ | exact isRow.lasts _ _ _ | exact isPtr.lasts _ _ _ | exact isRow1.lasts _)
      exact fun _ h => (by cases h)
  case hl =>
    repeat (refine List.forall_mem_cons.2 ⟨?_, ?_⟩; first | exact isV.lasts _ | exact isD.lasts _ | exact isNV.lasts _ | exact isDV.lasts _ | exact isWV.lasts _ | exact isWC.lasts _ | exact isNR.lasts _ _ | exact isWR.lasts _ _ | exact isRow.lasts _ _ _ | exact isPtr.lasts _ _ _ | exact isRow1.lasts _)
    exact fun _ h => (by cases h)

end Go.Proofs.YtphjcphcgnjogaaDoor
