/-
  Dyads: sums and differences.
-/
import Derived.Test.YtphjcphcgnjogaaDoorDyE
namespace Go.Proofs.YtphjcphcgnjogaaDoor
set_option linter.unusedSimpArgs false
open Go.RowKit
set_option maxHeartbeats 1600000 in
set_option maxRecDepth 100000 in
theorem add_d {w : World} {a b : Value} {x y : Dy} {N : Nat} (ha : Hid (DV w a x)) (hb : Hid (DV w b y)) (hx : Hid (Bnd N x)) (hy : Hid (Bnd N y)) (hN : N ≤ 2000000) (hT : Hid (Tab6 w)) : Calls Tryd.prog 27 #[a, b] w (DPost (dAdd x y) w) := by
  obtain ⟨s, A, k, c, rfl, hv⟩ := ha.out.form
  obtain ⟨t, B, l, d, rfl, hv'⟩ := hb.out.form
  have hk := (((KB.start w).new 51 [.bool s, .slice A k c, .int .i64 x.e]).new 51 [.bool t, .slice B l d, .int .i64 y.e]).new 51 [.bool false, .slice none 0 0, .int .i64 0]
  simp only [World.size_alloc] at hk
  have HX := Lib.hid (hv.only hk.only)
  have HY := Lib.hid (hv'.only hk.only)
  have HT := Lib.hid (hT.out.keep hk.only)
  have HK := Lib.hid hk
  clear hk hv hv' ha hb hT
  have hxe := lim_i64 hx.out (by omega)
  have hye := lim_i64 hy.out (by omega)
  have HBX : Hid (bitsN x.z.natAbs ≤ 16777216) := bits_few hx.out.z (by omega)
  have HBY : Hid (bitsN y.z.natAbs ≤ 16777216) := bits_few hy.out.z (by omega)
  by_cases hx0 : x.z = 0
  · rw [dAdd_x0 hx0]
    have HP : Hid (x.z.sign = 0) := by show _ = _; rw [hx0]; rfl
    clear hx0
    go_enter Tryd.func27, Tryd.ntmps27
    go_wp2_with fail
    (with_reducible refine (signV_d 0 (DV.of HX) HP.out).mono ?_)
    rintro e2 w2 ⟨rfl, ho⟩
    replace HK := Lib.hid (HK.out.step ho)
    replace HX := Lib.hid (HX.out.only ho)
    replace HY := Lib.hid (HY.out.only ho)
    replace HT := Lib.hid (HT.out.keep ho)
    obtain ⟨a0, a1, a2, -, -, -⟩ := HK.out.c3 2 rfl
    obtain ⟨b0, b1, b2, -, -, -⟩ := HK.out.c3 1 rfl
    clear ho
    go_wp2_with fail
    (with_reducible refine (make_d HY HBY (by omega) (by omega) HT).mono ?_)
    rintro e3 w3 ⟨s3, A3, k3, c3, rfl, hs3, hk3, hv3, ho⟩
    replace HK := Lib.hid (HK.out.step ho)
    have HC : Hid (Cn s3 k3 (nrm y.z y.e).z) := ⟨hs3, hk3⟩
    have HV := Lib.hid hv3
    obtain ⟨c0, c1', c2, f0, f1, f2⟩ := HK.out.c3 0 rfl
    clear ho hs3 hk3 hv3 HX HY a0 a1 a2 b0 b1 b2
    generalize nrm y.z y.e = r at *
    go_wp2_with fail
    refine bodyPost_ret (v := .agg #[.bool s3, .slice A3 k3 c3, .int .i64 (r.e)]) (by simp [results, Tryd.results27, go_sem, c0, c1', c2]) rfl ?_
    exact dfin HC HV (by omega) (HK.out.blk 0 rfl) (noLimb3 _ _ _ _ _) HK.out.only (only_set3 _ _ _ _ _)

  obtain ⟨p, hp⟩ : ∃ p, x.z.sign = p := ⟨_, rfl⟩
  have hp0 : (p == 0) = false := by rw [beq_eq_false_iff_ne]; intro hc; subst hc; exact hx0 (Int.sign_eq_zero_iff_zero.1 hp)
  have HP := Lib.hid hp
  clear hp
  by_cases hy0 : y.z = 0
  · rw [dAdd_y0 hx0 hy0]
    have HQ : Hid (y.z.sign = 0) := by show _ = _; rw [hy0]; rfl
    clear hx0 hy0
    go_enter Tryd.func27, Tryd.ntmps27
    go_wp2_with fail
    (with_reducible refine (signV_d p (DV.of HX) HP.out).mono ?_)
    rintro e2 w2 ⟨rfl, ho⟩
    replace HK := Lib.hid (HK.out.step ho)
    replace HX := Lib.hid (HX.out.only ho)
    replace HY := Lib.hid (HY.out.only ho)
    replace HT := Lib.hid (HT.out.keep ho)
    obtain ⟨a0, a1, a2, -, -, -⟩ := HK.out.c3 2 rfl
    obtain ⟨b0, b1, b2, -, -, -⟩ := HK.out.c3 1 rfl
    clear ho
    go_wp2_with fail
    clear a0 a1 a2 b0 b1 b2
    (with_reducible refine (signV_d 0 (DV.of HY) HQ.out).mono ?_)
    rintro e2 w2 ⟨rfl, ho⟩
    replace HK := Lib.hid (HK.out.step ho)
    replace HX := Lib.hid (HX.out.only ho)
    replace HY := Lib.hid (HY.out.only ho)
    replace HT := Lib.hid (HT.out.keep ho)
    obtain ⟨a0, a1, a2, -, -, -⟩ := HK.out.c3 2 rfl
    obtain ⟨b0, b1, b2, -, -, -⟩ := HK.out.c3 1 rfl
    clear ho
    go_wp2_with fail
    (with_reducible refine (make_d HX HBX (by omega) (by omega) HT).mono ?_)
    rintro e3 w3 ⟨s3, A3, k3, c3, rfl, hs3, hk3, hv3, ho⟩
    replace HK := Lib.hid (HK.out.step ho)
    have HC : Hid (Cn s3 k3 (nrm x.z x.e).z) := ⟨hs3, hk3⟩
    have HV := Lib.hid hv3
    obtain ⟨c0, c1', c2, f0, f1, f2⟩ := HK.out.c3 0 rfl
    clear ho hs3 hk3 hv3 HX HY a0 a1 a2 b0 b1 b2
    generalize nrm x.z x.e = r at *
    go_wp2_with fail
    refine bodyPost_ret (v := .agg #[.bool s3, .slice A3 k3 c3, .int .i64 (r.e)]) (by simp [results, Tryd.results27, go_sem, c0, c1', c2]) rfl ?_
    exact dfin HC HV (by omega) (HK.out.blk 0 rfl) (noLimb3 _ _ _ _ _) HK.out.only (only_set3 _ _ _ _ _)

  · rw [dAdd_al hx0 hy0]
    obtain ⟨q, hq⟩ : ∃ p, y.z.sign = p := ⟨_, rfl⟩
    have hq0 : (q == 0) = false := by rw [beq_eq_false_iff_ne]; intro hc; subst hc; exact hy0 (Int.sign_eq_zero_iff_zero.1 hq)
    have HQ := Lib.hid hq
    have hal := abs_add_lt (hx.out.alX hy.out) (hx.out.alY hy.out)
    have HB : Hid (bitsN (alX x y + alY x y).natAbs ≤ 16777216) := bits_few hal (by omega)
    have HF : Hid (Few (alX x y + alY x y).natAbs) := few_two_pow hal (by omega)
    obtain ⟨m, hm⟩ : ∃ m, min x.e y.e = m := ⟨_, rfl⟩
    have hmr : -8000000 ≤ m ∧ m ≤ 8000000 := by omega
    have HM := Lib.hid hm
    rw [hm]
    clear hx0 hy0 hq hal hm
    go_enter Tryd.func27, Tryd.ntmps27
    go_wp2_with fail
    (with_reducible refine (signV_d p (DV.of HX) HP.out).mono ?_)
    rintro e2 w2 ⟨rfl, ho⟩
    replace HK := Lib.hid (HK.out.step ho)
    replace HX := Lib.hid (HX.out.only ho)
    replace HY := Lib.hid (HY.out.only ho)
    replace HT := Lib.hid (HT.out.keep ho)
    obtain ⟨a0, a1, a2, -, -, -⟩ := HK.out.c3 2 rfl
    obtain ⟨b0, b1, b2, -, -, -⟩ := HK.out.c3 1 rfl
    clear ho
    go_wp2_with fail
    clear a0 a1 a2 b0 b1 b2
    (with_reducible refine (signV_d q (DV.of HY) HQ.out).mono ?_)
    rintro e2 w2 ⟨rfl, ho⟩
    replace HK := Lib.hid (HK.out.step ho)
    replace HX := Lib.hid (HX.out.only ho)
    replace HY := Lib.hid (HY.out.only ho)
    replace HT := Lib.hid (HT.out.keep ho)
    obtain ⟨a0, a1, a2, -, -, -⟩ := HK.out.c3 2 rfl
    obtain ⟨b0, b1, b2, -, -, -⟩ := HK.out.c3 1 rfl
    clear ho
    go_wp2_with fail
    clear a0 a1 a2 b0 b1 b2
    (with_reducible refine (align_d (DV.of HX) (DV.of HY) hx hy hN).mono ?_)
    rintro e5 w5 ⟨s1, A1, k1, c1, t1, B1, l1, d1, rfl, hv1, hv2, ho⟩
    rw [HM.out]
    have ho' : Only [] w5 (((w5.alloc (.cells #[.bool s1, .slice A1 k1 c1] 27)).alloc (.cells #[.bool t1, .slice B1 l1 d1] 27)).alloc (.cells #[.bool t1, .slice B1 l1 d1] 27)) := (((Only.refl [] _).alloc _).alloc _).alloc _
    have HV1 := Lib.hid (hv1.only ho')
    have HV2 := Lib.hid (hv2.only ho')
    replace HK := Lib.hid ((HK.out.step ho).step ho')
    replace HT := Lib.hid ((HT.out.keep ho).keep ho')
    have hrow := (Blk.new ((w5.alloc (.cells #[.bool s1, .slice A1 k1 c1] 27)).alloc (.cells #[.bool t1, .slice B1 l1 d1] 27)) 27 [.bool t1, .slice B1 l1 d1])
    simp only [World.size_alloc] at hrow
    have HR := Lib.hid hrow
    clear hv1 hv2 ho ho' HX HY hrow
    go_wp2_with fail
    (with_reducible refine (add1_w HR HV1 HV2 HF).mono ?_)
    rintro e6 w6 ⟨s6, A6, k6, c6, rfl, -, -, hv6, ho⟩
    replace HK := Lib.hid (HK.out.step ho)
    replace HT := Lib.hid (HT.out.keep ho)
    have HV6 := Lib.hid hv6
    clear hv6 ho HR HV1 HV2
    go_wp2_with fail
    (with_reducible refine (make_d HV6 HB (by omega) (by omega) HT).mono ?_)
    rintro e7 w7 ⟨s3, A3, k3, c3, rfl, hs3, hk3, hv3, ho⟩
    replace HK := Lib.hid (HK.out.step ho)
    have HC : Hid (Cn s3 k3 (nrm (alX x y + alY x y) m).z) := ⟨hs3, hk3⟩
    have HV := Lib.hid hv3
    obtain ⟨c0, c1', c2, f0, f1, f2⟩ := HK.out.c3 0 rfl
    clear ho hs3 hk3 hv3 HT HV6 HF HB
    generalize nrm (alX x y + alY x y) m = r at *
    go_wp2_with fail
    refine bodyPost_ret (v := .agg #[.bool s3, .slice A3 k3 c3, .int .i64 (r.e)]) (by simp [results, Tryd.results27, go_sem, c0, c1', c2]) rfl ?_
    exact dfin HC HV (by omega) (HK.out.blk 0 rfl) (noLimb3 _ _ _ _ _) HK.out.only (only_set3 _ _ _ _ _)
set_option maxHeartbeats 1600000 in
set_option maxRecDepth 100000 in
theorem sub_d {w : World} {a b : Value} {x y : Dy} {N : Nat} (ha : Hid (DV w a x)) (hb : Hid (DV w b y)) (hx : Hid (Bnd N x)) (hy : Hid (Bnd N y)) (hN : N ≤ 1000000) (hT : Hid (Tab6 w)) : Calls Tryd.prog 29 #[a, b] w (DPost (dSub x y) w) := by
  unfold dSub
  obtain ⟨s, A, k, c, rfl, hv⟩ := ha.out.form
  obtain ⟨t, B, l, d, rfl, hv'⟩ := hb.out.form
  have hk := (((KB.start w).new 51 [.bool s, .slice A k c, .int .i64 x.e]).new 51 [.bool t, .slice B l d, .int .i64 y.e]).new 51 [.bool false, .slice none 0 0, .int .i64 0]
  simp only [World.size_alloc] at hk
  have HX := Lib.hid (hv.only hk.only)
  have HY := Lib.hid (hv'.only hk.only)
  have HT := Lib.hid (hT.out.keep hk.only)
  have HK := Lib.hid hk
  clear hk hv hv' ha hb hT
  have HX2 : Hid (Bnd (2 * N) x) := hx.out.mono (by omega)
  have HY2 : Hid (Bnd (2 * N) (dNot y)) := hy.out.not (Nat.le_refl _)
  go_enter Tryd.func29, Tryd.ntmps29
  go_wp2_with fail
  generalize ((w.alloc (.cells #[.bool s, .slice A k c, .int .i64 x.e] 51)).alloc (.cells #[.bool t, .slice B l d, .int .i64 y.e] 51)).alloc (.cells #[.bool false, .slice none 0 0, .int .i64 0] 51) = w1 at *
  apply wp_region_typed_tail2 4 (by kernel_rfl) [isV _, isV _, isD (dNot y), isD (dAdd x (dNot y))] [[], [], [1], [0, 2]] (by kernel_rfl) (by kernel_rfl) (by kernel_rfl)
  case ho =>
    simp only [List.take_succ_cons, List.take_zero]
    refine owes2_cons (fun wx hox => ?_) ?_
    · skip
      have hk := HK.out.step hox
      obtain ⟨a0, a1, a2, -, -, -⟩ := hk.c3 2 rfl
      obtain ⟨b0, b1, b2, -, -, -⟩ := hk.c3 1 rfl
      have ivx := Lib.hid (HX.out.only hox)
      have ivy := Lib.hid (HY.out.only hox)
      have htx := Lib.hid (HT.out.keep hox)
      clear hk
      refine withs_plain rfl ?_
      simp only [withs, List.getElem?_cons_zero, List.getElem?_cons_succ, Option.bind, Option.getD]
      repeat (first | (with_reducible refine all_isV ?_) | (with_reducible refine all_isWC ?_; intro sx Ax kx cx hvx hwx) | (with_reducible refine all_isNR ?_; intro Ax kx cx hvx) | (with_reducible refine all_isNV ?_; intro Ax kx cx hvx) | (with_reducible refine all_isDV ?_; intro sx Ax kx cx hvx) | (with_reducible refine all_isWV ?_; intro sx Ax kx cx hvx) | (with_reducible refine all_isD ?_; intro sx Ax kx cx hvx hwx) | (with_reducible refine all_isRow ?_; intro gx' hbx) | (with_reducible refine all_isPtr ?_; intro gp' hbp hgp) | (with_reducible refine all_isRow1 ?_; intro gx' sr Ar kr cr hbx hvr))
      go_simp
      exact ⟨Only.refl _ _, isV.self _ _⟩
    refine owes2_cons (fun wx hox => ?_) ?_
    · skip
      have hk := HK.out.step hox
      obtain ⟨a0, a1, a2, -, -, -⟩ := hk.c3 2 rfl
      obtain ⟨b0, b1, b2, -, -, -⟩ := hk.c3 1 rfl
      have ivx := Lib.hid (HX.out.only hox)
      have ivy := Lib.hid (HY.out.only hox)
      have htx := Lib.hid (HT.out.keep hox)
      clear hk
      refine withs_plain rfl ?_
      simp only [withs, List.getElem?_cons_zero, List.getElem?_cons_succ, Option.bind, Option.getD]
      repeat (first | (with_reducible refine all_isV ?_) | (with_reducible refine all_isWC ?_; intro sx Ax kx cx hvx hwx) | (with_reducible refine all_isNR ?_; intro Ax kx cx hvx) | (with_reducible refine all_isNV ?_; intro Ax kx cx hvx) | (with_reducible refine all_isDV ?_; intro sx Ax kx cx hvx) | (with_reducible refine all_isWV ?_; intro sx Ax kx cx hvx) | (with_reducible refine all_isD ?_; intro sx Ax kx cx hvx hwx) | (with_reducible refine all_isRow ?_; intro gx' hbx) | (with_reducible refine all_isPtr ?_; intro gp' hbp hgp) | (with_reducible refine all_isRow1 ?_; intro gx' sr Ar kr cr hbx hvr))
      go_simp
      exact ⟨Only.refl _ _, isV.self _ _⟩
    refine owes2_cons (fun wx hox => ?_) ?_
    · skip
      have hk := HK.out.step hox
      obtain ⟨a0, a1, a2, -, -, -⟩ := hk.c3 2 rfl
      obtain ⟨b0, b1, b2, -, -, -⟩ := hk.c3 1 rfl
      have ivx := Lib.hid (HX.out.only hox)
      have ivy := Lib.hid (HY.out.only hox)
      have htx := Lib.hid (HT.out.keep hox)
      clear hk
      refine withs_plain rfl ?_
      simp only [withs, List.getElem?_cons_zero, List.getElem?_cons_succ, Option.bind, Option.getD]
      repeat (first | (with_reducible refine all_isV ?_) | (with_reducible refine all_isWC ?_; intro sx Ax kx cx hvx hwx) | (with_reducible refine all_isNR ?_; intro Ax kx cx hvx) | (with_reducible refine all_isNV ?_; intro Ax kx cx hvx) | (with_reducible refine all_isDV ?_; intro sx Ax kx cx hvx) | (with_reducible refine all_isWV ?_; intro sx Ax kx cx hvx) | (with_reducible refine all_isD ?_; intro sx Ax kx cx hvx hwx) | (with_reducible refine all_isRow ?_; intro gx' hbx) | (with_reducible refine all_isPtr ?_; intro gp' hbp hgp) | (with_reducible refine all_isRow1 ?_; intro gx' sr Ar kr cr hbx hvr))
      go_simp
      (with_reducible exact grow_d (not_d (DV.of ivy) hy (by omega) htx))
    refine owes2_cons (fun wx hox => ?_) ?_
    · skip
      have hk := HK.out.step hox
      obtain ⟨a0, a1, a2, -, -, -⟩ := hk.c3 2 rfl
      obtain ⟨b0, b1, b2, -, -, -⟩ := hk.c3 1 rfl
      have ivx := Lib.hid (HX.out.only hox)
      have ivy := Lib.hid (HY.out.only hox)
      have htx := Lib.hid (HT.out.keep hox)
      clear hk
      refine withs_plain rfl ?_
      simp only [withs, List.getElem?_cons_zero, List.getElem?_cons_succ, Option.bind, Option.getD]
      repeat (first | (with_reducible refine all_isV ?_) | (with_reducible refine all_isWC ?_; intro sx Ax kx cx hvx hwx) | (with_reducible refine all_isNR ?_; intro Ax kx cx hvx) | (with_reducible refine all_isNV ?_; intro Ax kx cx hvx) | (with_reducible refine all_isDV ?_; intro sx Ax kx cx hvx) | (with_reducible refine all_isWV ?_; intro sx Ax kx cx hvx) | (with_reducible refine all_isD ?_; intro sx Ax kx cx hvx hwx) | (with_reducible refine all_isRow ?_; intro gx' hbx) | (with_reducible refine all_isPtr ?_; intro gp' hbp hgp) | (with_reducible refine all_isRow1 ?_; intro gx' sr Ar kr cr hbx hvr))
      go_simp
      (with_reducible exact grow_d (add_d (DV.of ivx) (DV.of (by assumption)) HX2 HY2 (by omega) htx))
    exact owes2_nil
  case he =>
    simp only [List.drop_succ_cons, List.drop_zero]
    intro wx hox
    refine withs_of (by simp only [List.length, List.range, List.range.loop]; exact rfl) ?_
    simp only [withs, List.getElem?_cons_zero, List.getElem?_cons_succ, Option.bind, Option.getD]
    repeat (first | (with_reducible refine all_isV ?_) | (with_reducible refine all_isWC ?_; intro sx Ax kx cx hvx hwx) | (with_reducible refine all_isNR ?_; intro Ax kx cx hvx) | (with_reducible refine all_isNV ?_; intro Ax kx cx hvx) | (with_reducible refine all_isDV ?_; intro sx Ax kx cx hvx) | (with_reducible refine all_isWV ?_; intro sx Ax kx cx hvx) | (with_reducible refine all_isD ?_; intro sx Ax kx cx hvx hwx) | (with_reducible refine all_isRow ?_; intro gx' hbx) | (with_reducible refine all_isPtr ?_; intro gp' hbp hgp) | (with_reducible refine all_isRow1 ?_; intro gx' sr Ar kr cr hbx hvr))
    go_simp
    have hk := HK.out.step hox
    obtain ⟨c0, c1', c2, f0, f1, f2⟩ := hk.c3 0 rfl
    replace hk := Lib.hid hk
    clear hox
    go_wp2_with fail
    refine bodyPost_ret (v := .agg #[.bool sx, .slice Ax kx cx, .int .i64 ((dAdd x (dNot y)).e)]) (by simp [results, Tryd.results29, go_sem, c0, c1', c2]) rfl ?_
    exact dfin (x := dAdd x (dNot y)) (by assumption) (by assumption) (by omega) (hk.out.blk 0 rfl) (noLimb3 _ _ _ _ _) hk.out.only (only_set3 _ _ _ _ _)
  case hl =>
    repeat (refine List.forall_mem_cons.2 ⟨?_, ?_⟩; first | exact isV.lasts _ | exact isD.lasts _ | exact isNV.lasts _ | exact isDV.lasts _ | exact isWV.lasts _ | exact isWC.lasts _ | exact isNR.lasts _ _ | exact isWR.lasts _ _ | exact isRow.lasts _ _ _ | exact isPtr.lasts _ _ _ | exact isRow1.lasts _)
    exact fun _ h => (by cases h)

end Go.Proofs.YtphjcphcgnjogaaDoor
