/-
  Joined texts.
-/
import Derived.Test.YtigpnopeacicpaaDoorTwJ12
import Derived.Test.YtigpnopeacicpaaDoorTwRefJ
import Derived.Test.YtigpnopeacicpaaDoorTwGRd
/-
  compasslaw2.Ref, floor, Is by value.
-/
namespace Go.Proofs.YtigpnopeacicpaaDoor
set_option linter.unusedSimpArgs false
open Go.RowKit

set_option maxHeartbeats 3200000 in
set_option maxRecDepth 100000 in
theorem rref_w {w : World} {a : Value} {z : Int} (ha : Hid (IV w a z)) : Calls Tryd.prog 14 #[a] w (RDP (nrm z 0) w) := by
  obtain ⟨s, A, n, c, rfl, hs⟩ := ha.out.form
  have hk := ((KB.start w).new 44 [.bool s, .slice A n c]).new 47 [.bool false, .slice none 0 0, .int .i64 0]
  simp only [World.size_alloc] at hk
  have HM := Lib.hid (ha.out.mag.only hk.only)
  have HF : Hid (Few z.natAbs) := ha.out.few
  have HS : Hid (nrm (sg s z.natAbs) 0 = nrm z 0) := by show _ = _; rw [hs]
  have HK := Lib.hid hk
  clear hk ha hs
  go_enter Tryd.func14, Tryd.ntmps14
  go_upto_region 1 with fail
  apply wp_region_typed_tail2 6 (by kernel_rfl) [isV _, isV _, isV _, isV _, isRN z.natAbs, isRD (nrm z 0)] [[], [0], [], [2], [3], [1, 4]] (by kernel_rfl) (by kernel_rfl) (by kernel_rfl)
  case ho =>
    simp only [List.take_succ_cons, List.take_zero]
    refine owes2_cons (fun wx hox => ?_) ?_
    · skip
      refine withs_plain rfl ?_
      simp only [withs, List.getElem?_cons_zero, List.getElem?_cons_succ, Option.bind, Option.getD]
      repeat (first | (with_reducible refine all_isV ?_) | (with_reducible refine all_isRD ?_; intro sx Ax kx cx hvx hwx) | (with_reducible refine all_isRN ?_; intro Ax kx cx hvx))
      go_simp
      exact ⟨Only.refl _ _, isV.self _ _⟩
    refine owes2_cons (fun wx hox => ?_) ?_
    · skip
      have hk := HK.out.step hox
      obtain ⟨i0, i1, -, -⟩ := hk.c2 1 rfl
      clear hk
      refine withs_plain rfl ?_
      simp only [withs, List.getElem?_cons_zero, List.getElem?_cons_succ, Option.bind, Option.getD]
      repeat (first | (with_reducible refine all_isV ?_) | (with_reducible refine all_isRD ?_; intro sx Ax kx cx hvx hwx) | (with_reducible refine all_isRN ?_; intro Ax kx cx hvx))
      go_simp
      exact ⟨Only.refl _ _, isV.self _ _⟩
    refine owes2_cons (fun wx hox => ?_) ?_
    · skip
      refine withs_plain rfl ?_
      simp only [withs, List.getElem?_cons_zero, List.getElem?_cons_succ, Option.bind, Option.getD]
      repeat (first | (with_reducible refine all_isV ?_) | (with_reducible refine all_isRD ?_; intro sx Ax kx cx hvx hwx) | (with_reducible refine all_isRN ?_; intro Ax kx cx hvx))
      go_simp
      exact ⟨Only.refl _ _, isV.self _ _⟩
    refine owes2_cons (fun wx hox => ?_) ?_
    · skip
      have hk := HK.out.step hox
      obtain ⟨i0, i1, -, -⟩ := hk.c2 1 rfl
      clear hk
      refine withs_plain rfl ?_
      simp only [withs, List.getElem?_cons_zero, List.getElem?_cons_succ, Option.bind, Option.getD]
      repeat (first | (with_reducible refine all_isV ?_) | (with_reducible refine all_isRD ?_; intro sx Ax kx cx hvx hwx) | (with_reducible refine all_isRN ?_; intro Ax kx cx hvx))
      go_simp
      exact ⟨Only.refl _ _, isV.self _ _⟩
    refine owes2_cons (fun wx hox => ?_) ?_
    · skip
      have hk := HK.out.step hox
      obtain ⟨i0, i1, -, -⟩ := hk.c2 1 rfl
      clear hk
      refine withs_plain rfl ?_
      simp only [withs, List.getElem?_cons_zero, List.getElem?_cons_succ, Option.bind, Option.getD]
      repeat (first | (with_reducible refine all_isV ?_) | (with_reducible refine all_isRD ?_; intro sx Ax kx cx hvx hwx) | (with_reducible refine all_isRN ?_; intro Ax kx cx hvx))
      go_simp
      (with_reducible exact grow_rn (from_v (Lib.hid (HM.out.only hox))))
    refine owes2_cons (fun wx hox => ?_) ?_
    · skip
      have hk := HK.out.step hox
      obtain ⟨i0, i1, -, -⟩ := hk.c2 1 rfl
      clear hk
      refine withs_plain rfl ?_
      simp only [withs, List.getElem?_cons_zero, List.getElem?_cons_succ, Option.bind, Option.getD]
      repeat (first | (with_reducible refine all_isV ?_) | (with_reducible refine all_isRD ?_; intro sx Ax kx cx hvx hwx) | (with_reducible refine all_isRN ?_; intro Ax kx cx hvx))
      go_simp
      (with_reducible exact grow_rd (rmake_d s 0 (by assumption) HF (by omega) (by omega) HS.out))
    exact owes2_nil
  case he =>
    simp only [List.drop_succ_cons, List.drop_zero]
    intro wx hox
    refine withs_of (by simp only [List.length, List.range, List.range.loop]; exact rfl) ?_
    simp only [withs, List.getElem?_cons_zero, List.getElem?_cons_succ, Option.bind, Option.getD]
    with_reducible refine all_isV ?_
    with_reducible refine all_isV ?_
    with_reducible refine all_isV ?_
    with_reducible refine all_isV ?_
    with_reducible refine all_isRN ?_
    intro A4 k4 c4 hv4
    with_reducible refine all_isRD ?_
    intro s5 A5 k5 c5 hv5 hw5
    go_simp
    have hk := HK.out.step hox
    obtain ⟨q0, q1, q2, f0, f1, f2⟩ := hk.c3 0 rfl
    have HB := Lib.hid (hk.blk 0 rfl)
    have HO := Lib.hid hk.only
    clear hk hox HK
    generalize nrm z 0 = r at *
    go_wp2_with fail
    refine bodyPost_ret (v := .agg #[.bool s5, .slice A5 k5 c5, .int .i64 (r.e)]) (by simp [results, Tryd.results14, go_sem, q0, q1, q2]) rfl ?_
    exact rdfin hv5 hw5 (by omega) HB.out (noLimb3 _ _ _ _ _) HO.out (only_set3 _ _ _ _ _)
  case hl =>
    repeat (refine List.forall_mem_cons.2 ⟨?_, ?_⟩; first | exact isV.lasts _ | exact isRD.lasts _ | exact isRN.lasts _)
    exact fun _ h => (by cases h)

def intD (x : Dy) : Int := x.z * 2 ^ x.e.toNat
theorem intD_nrm (z : Int) : intD (nrm z 0) = z := by
  by_cases h : z = 0
  · subst h; rfl
  · obtain ⟨m, h1, h2, h3⟩ := nrm_split h
    rw [nrm_nz 0 h]
    unfold intD
    simp only [Int.zero_add, Int.toNat_natCast]
    exact h3
theorem nrm_e0 (z : Int) : 0 ≤ (nrm z 0).e := by
  by_cases h : z = 0
  · subst h; exact Int.le_refl _
  · rw [nrm_nz 0 h]; show 0 ≤ 0 + _; omega
set_option maxHeartbeats 3200000 in
set_option maxRecDepth 100000 in
theorem rfloor_d {w : World} {a b : Value} {x y : Dy} {N : Nat} (up : Bool) (ha : Hid (RD w a x)) (hb : Hid (RD w b y)) (bx : Hid (Bnd N x)) (by_ : Hid (Bnd N y)) (hN : N ≤ 1000000) (hxe : 0 ≤ x.e) (hye : 0 ≤ y.e) (hy0 : y.z ≠ 0) : Calls Tryd.prog 18 #[a, b, .bool up] w (RDP (nrm (quoI up (intD x) (intD y)) 0) w) := by
  have HFx := Lib.hid (rd_few bx.out (by omega))
  have HFy := Lib.hid (rd_few by_.out (by omega))
  have hex := rlim_i64 bx.out (by omega)
  have hey := rlim_i64 by_.out (by omega)
  obtain ⟨s, A, k, c, rfl, hcx, hvx⟩ := ha.out
  obtain ⟨t, B, m, d, rfl, hcy, hvy⟩ := hb.out
  obtain ⟨nx, hnx⟩ : ∃ nx : Nat, x.e = (nx : Int) := ⟨x.e.toNat, by omega⟩
  obtain ⟨ny, hny⟩ : ∃ ny : Nat, y.e = (ny : Int) := ⟨y.e.toNat, by omega⟩
  have hnx9 : (nx : Int) ≤ 90000000 := by omega
  have hny9 : (ny : Int) ≤ 90000000 := by omega
  have hlx := bx.out.z
  have hly := by_.out.z
  have hhx := bx.out.hi
  have hhy := by_.out.hi
  obtain ⟨X, hX⟩ : ∃ X, x.z.natAbs * 2 ^ nx = X := ⟨_, rfl⟩
  obtain ⟨Y, hY⟩ : ∃ Y, y.z.natAbs * 2 ^ ny = Y := ⟨_, rfl⟩
  have hXl : X < 2 ^ (2 * N) := by
    rw [← hX, Nat.two_mul, Nat.pow_add]
    exact Nat.lt_of_lt_of_le (Nat.mul_lt_mul_of_pos_right hlx (Nat.pow_pos (by omega))) (Nat.mul_le_mul_left _ (two_mono (by omega)))
  have hYl : Y < 2 ^ (2 * N) := by
    rw [← hY, Nat.two_mul, Nat.pow_add]
    exact Nat.lt_of_lt_of_le (Nat.mul_lt_mul_of_pos_right hly (Nat.pow_pos (by omega))) (Nat.mul_le_mul_left _ (two_mono (by omega)))
  have HFX : Hid (Few X) := few_two_pow hXl (by omega)
  have HFY : Hid (Few Y) := few_two_pow hYl (by omega)
  have HFX1 : Hid (Few (X / Y + 1)) := few_two_pow (N := 2 * N + 1) (by have := Nat.div_le_self X Y; rw [Nat.pow_succ]; omega) (by omega)
  have HX := Lib.hid hX
  have HY := Lib.hid hY
  have hYp : Y ≠ 0 := by rw [← hY]; exact Nat.mul_ne_zero (by omega) (Nat.pos_iff_ne_zero.1 (Nat.pow_pos (by omega)))
  have HYp : Hid (0 < Y) := Nat.pos_of_ne_zero hYp
  have HVal : Hid (sg (s != t) (X / Y + if 0 < X % Y ∧ up ≠ (s != t) then 1 else 0) = quoI up (intD x) (intD y)) := by
    show _ = _
    rw [quo_sg up s t X Y hYp, ← hX, ← hY, rsg_pow nx (RD.sgn hcx), rsg_pow ny (RD.sgn hcy)]
    unfold intD
    rw [hnx, hny]
    rfl
  have hk := (((KB.start w).new 47 [.bool s, .slice A k c, .int .i64 x.e]).new 47 [.bool t, .slice B m d, .int .i64 y.e]).new 47 [.bool false, .slice none 0 0, .int .i64 0]
  simp only [World.size_alloc] at hk
  rw [hnx, hny] at hk
  rw [hnx, hny]
  have HVx := Lib.hid (hvx.only hk.only)
  have HVy := Lib.hid (hvy.only hk.only)
  have HK := Lib.hid hk
  clear hk hvx hvy hcx hcy ha hb hX hY hXl hYl hlx hly hhx hhy hYp hex hey hxe hye hnx hny
  generalize quoI up (intD x) (intD y) = Q at *
  go_enter Tryd.func18, Tryd.ntmps18
  go_upto_region 1 with fail
  apply wp_region_typed2 (by kernel_rfl) [isV _, isV _, isV _, isV _, isRN X, isV _, isV _, isV _, isV _, isRN Y, isRN X, isRN Y] [[], [0], [], [2], [1, 3], [], [5], [], [7], [6, 8], [4], [9]] (by kernel_rfl) (by kernel_rfl)
  case ho =>
    refine owes2_cons (fun wx hox => ?_) ?_
    · skip
      refine withs_plain rfl ?_
      simp only [withs, List.getElem?_cons_zero, List.getElem?_cons_succ, Option.bind, Option.getD]
      repeat (first | (with_reducible refine all_isV ?_) | (with_reducible refine all_isRN ?_; intro Ax kx cx hvx))
      go_simp
      exact ⟨Only.refl _ _, isV.self _ _⟩
    refine owes2_cons (fun wx hox => ?_) ?_
    · skip
      have hk := HK.out.step hox
      obtain ⟨i0, i1, i2, -, -, -⟩ := hk.c3 2 rfl
      obtain ⟨j0, j1, j2, -, -, -⟩ := hk.c3 1 rfl
      clear hk
      refine withs_plain rfl ?_
      simp only [withs, List.getElem?_cons_zero, List.getElem?_cons_succ, Option.bind, Option.getD]
      repeat (first | (with_reducible refine all_isV ?_) | (with_reducible refine all_isRN ?_; intro Ax kx cx hvx))
      go_simp
      exact ⟨Only.refl _ _, isV.self _ _⟩
    refine owes2_cons (fun wx hox => ?_) ?_
    · skip
      refine withs_plain rfl ?_
      simp only [withs, List.getElem?_cons_zero, List.getElem?_cons_succ, Option.bind, Option.getD]
      repeat (first | (with_reducible refine all_isV ?_) | (with_reducible refine all_isRN ?_; intro Ax kx cx hvx))
      go_simp
      exact ⟨Only.refl _ _, isV.self _ _⟩
    refine owes2_cons (fun wx hox => ?_) ?_
    · skip
      have hk := HK.out.step hox
      obtain ⟨i0, i1, i2, -, -, -⟩ := hk.c3 2 rfl
      obtain ⟨j0, j1, j2, -, -, -⟩ := hk.c3 1 rfl
      clear hk
      refine withs_plain rfl ?_
      simp only [withs, List.getElem?_cons_zero, List.getElem?_cons_succ, Option.bind, Option.getD]
      repeat (first | (with_reducible refine all_isV ?_) | (with_reducible refine all_isRN ?_; intro Ax kx cx hvx))
      go_simp
      exact ⟨Only.refl _ _, isV.self _ _⟩
    refine owes2_cons (fun wx hox => ?_) ?_
    · skip
      have hk := HK.out.step hox
      obtain ⟨i0, i1, i2, -, -, -⟩ := hk.c3 2 rfl
      obtain ⟨j0, j1, j2, -, -, -⟩ := hk.c3 1 rfl
      clear hk
      refine withs_plain rfl ?_
      simp only [withs, List.getElem?_cons_zero, List.getElem?_cons_succ, Option.bind, Option.getD]
      repeat (first | (with_reducible refine all_isV ?_) | (with_reducible refine all_isRN ?_; intro Ax kx cx hvx))
      go_simp
      (with_reducible exact grow_rn (rshlV_v nx X hnx9 (Lib.hid (HVx.out.only hox)) HFx HX.out))
    refine owes2_cons (fun wx hox => ?_) ?_
    · skip
      refine withs_plain rfl ?_
      simp only [withs, List.getElem?_cons_zero, List.getElem?_cons_succ, Option.bind, Option.getD]
      repeat (first | (with_reducible refine all_isV ?_) | (with_reducible refine all_isRN ?_; intro Ax kx cx hvx))
      go_simp
      exact ⟨Only.refl _ _, isV.self _ _⟩
    refine owes2_cons (fun wx hox => ?_) ?_
    · skip
      have hk := HK.out.step hox
      obtain ⟨i0, i1, i2, -, -, -⟩ := hk.c3 2 rfl
      obtain ⟨j0, j1, j2, -, -, -⟩ := hk.c3 1 rfl
      clear hk
      refine withs_plain rfl ?_
      simp only [withs, List.getElem?_cons_zero, List.getElem?_cons_succ, Option.bind, Option.getD]
      repeat (first | (with_reducible refine all_isV ?_) | (with_reducible refine all_isRN ?_; intro Ax kx cx hvx))
      go_simp
      exact ⟨Only.refl _ _, isV.self _ _⟩
    refine owes2_cons (fun wx hox => ?_) ?_
    · skip
      refine withs_plain rfl ?_
      simp only [withs, List.getElem?_cons_zero, List.getElem?_cons_succ, Option.bind, Option.getD]
      repeat (first | (with_reducible refine all_isV ?_) | (with_reducible refine all_isRN ?_; intro Ax kx cx hvx))
      go_simp
      exact ⟨Only.refl _ _, isV.self _ _⟩
    refine owes2_cons (fun wx hox => ?_) ?_
    · skip
      have hk := HK.out.step hox
      obtain ⟨i0, i1, i2, -, -, -⟩ := hk.c3 2 rfl
      obtain ⟨j0, j1, j2, -, -, -⟩ := hk.c3 1 rfl
      clear hk
      refine withs_plain rfl ?_
      simp only [withs, List.getElem?_cons_zero, List.getElem?_cons_succ, Option.bind, Option.getD]
      repeat (first | (with_reducible refine all_isV ?_) | (with_reducible refine all_isRN ?_; intro Ax kx cx hvx))
      go_simp
      exact ⟨Only.refl _ _, isV.self _ _⟩
    refine owes2_cons (fun wx hox => ?_) ?_
    · skip
      have hk := HK.out.step hox
      obtain ⟨i0, i1, i2, -, -, -⟩ := hk.c3 2 rfl
      obtain ⟨j0, j1, j2, -, -, -⟩ := hk.c3 1 rfl
      clear hk
      refine withs_plain rfl ?_
      simp only [withs, List.getElem?_cons_zero, List.getElem?_cons_succ, Option.bind, Option.getD]
      repeat (first | (with_reducible refine all_isV ?_) | (with_reducible refine all_isRN ?_; intro Ax kx cx hvx))
      go_simp
      (with_reducible exact grow_rn (rshlV_v ny Y hny9 (Lib.hid (HVy.out.only hox)) HFy HY.out))
    iterate 2
      refine owes2_cons (fun wx hox => ?_) ?_
      · skip
        have hk := HK.out.step hox
        obtain ⟨i0, i1, i2, -, -, -⟩ := hk.c3 2 rfl
        obtain ⟨j0, j1, j2, -, -, -⟩ := hk.c3 1 rfl
        clear hk
        refine withs_plain rfl ?_
        simp only [withs, List.getElem?_cons_zero, List.getElem?_cons_succ, Option.bind, Option.getD]
        repeat (first | (with_reducible refine all_isV ?_) | (with_reducible refine all_isRN ?_; intro Ax kx cx hvx))
        go_simp
        (exact ⟨Only.refl _ _, _, _, _, rfl, hvx.out⟩)
    exact owes2_nil
  case he =>
    intro wx hox
    refine withs_of (by simp only [List.length, List.range, List.range.loop]; exact rfl) ?_
    simp only [withs, List.getElem?_cons_zero, List.getElem?_cons_succ, Option.bind, Option.getD]
    with_reducible refine all_isV ?_
    with_reducible refine all_isV ?_
    with_reducible refine all_isV ?_
    with_reducible refine all_isV ?_
    with_reducible refine all_isRN ?_
    intro A4 k4 c4 hv4
    with_reducible refine all_isV ?_
    with_reducible refine all_isV ?_
    with_reducible refine all_isV ?_
    with_reducible refine all_isV ?_
    with_reducible refine all_isRN ?_
    intro A9 k9 c9 hv9
    with_reducible refine all_isRN ?_
    intro A10 k10 c10 hv10
    with_reducible refine all_isRN ?_
    intro A11 k11 c11 hv11
    go_simp
    replace HK := Lib.hid (HK.out.step hox)
    clear hox hv4 hv9 HVx HVy HX HY
    obtain ⟨ng, hng⟩ : ∃ ng, (!(s == t)) = ng := ⟨_, rfl⟩
    have hng2 : (s != t) = ng := hng
    rw [hng2] at HVal
    clear hng2
    go_wp2_with fail
    (with_reducible refine (rdivmod_v hv10 hv11 HFX HFY HYp.out).mono ?_)
    rintro e w3 ⟨A3, k3, c3, A5, k5, c5, rfl, hq, hr, -, ho⟩
    replace HK := Lib.hid (HK.out.step ho)
    have HQ := Lib.hid hq
    have HLr := Lib.hid hr.len
    clear hq hr ho hv10 hv11
    obtain ⟨i0, -, -, -, -, -⟩ := HK.out.c3 2 rfl
    obtain ⟨j0, -, -, -, -, -⟩ := HK.out.c3 1 rfl
    by_cases hrem : 0 < X % Y
    · have hk5 : (0 : Int) < (k5 : Int) := by
        have h1 : (R.limbsOf (X % Y)).length ≠ 0 := fun h => by rw [R.limbsOf_len0] at h; omega
        have := HLr.out
        omega
      by_cases hup : up = ng
      · have hb : (ng == up) = true := by rw [hup]; simp
        have HFd : Hid (Few (X / Y)) := HFX1.out.le (Nat.le_succ _)
        have HS : Hid (nrm (sg ng (X / Y)) 0 = nrm Q 0) := by
          show _ = _
          rw [← HVal.out, if_neg (fun h => h.2 hup), Nat.add_zero]
        clear hup hrem
        go_wp2_with fail
        (with_reducible refine (rmake_d ng 0 HQ HFd (by omega) (by omega) HS.out).mono ?_)
        rintro e w6 ⟨s6, A6, k6, c6, rfl, hc6, hv6, ho⟩
        have hk := HK.out.step ho
        obtain ⟨q0, q1, q2, f0, f1, f2⟩ := hk.c3 0 rfl
        have HB := Lib.hid (hk.blk 0 rfl)
        have HO := Lib.hid hk.only
        have HV6 := Lib.hid hv6
        have HC6 := Lib.hid hc6
        clear hk HK hc6 hv6 ho HS HVal
        generalize nrm Q 0 = r at *
        go_wp2_with fail
        refine bodyPost_ret (v := .agg #[.bool s6, .slice A6 k6 c6, .int .i64 (r.e)]) (by simp [results, Tryd.results18, go_sem, q0, q1, q2]) rfl ?_
        exact rdfin HV6 HC6 (by omega) HB.out (noLimb3 _ _ _ _ _) HO.out (only_set3 _ _ _ _ _)
      · have hb : (ng == up) = false := by rw [beq_eq_false_iff_ne]; exact fun h => hup h.symm
        have HFd := HFX1
        have HFq : Hid (Few (X / Y)) := HFX1.out.le (Nat.le_succ _)
        have HS : Hid (nrm (sg ng (X / Y + 1)) 0 = nrm Q 0) := by
          show _ = _
          rw [← HVal.out, if_pos ⟨hrem, hup⟩]
        clear hup hrem
        go_wp2_with fail
        (with_reducible refine (rsmall_lit 1 1 w3 (Lib.hid (by rw [BB_val]; omega)) (Lib.hid rfl)).mono ?_)
        rintro e w4 ⟨A4', k4', c4', rfl, hv, -, ho⟩
        replace HK := Lib.hid (HK.out.step ho)
        have HV4 := Lib.hid hv
        replace HQ := Lib.hid (HQ.out.only ho)
        clear hv ho i0 j0
        go_wp2_with fail
        (with_reducible refine (radd_v HQ HV4 HFq (Lib.hid (few_small (by rw [BB_val]; omega)))).mono ?_)
        rintro e w5 ⟨A7, k7, c7, rfl, hv, -, ho⟩
        replace HK := Lib.hid (HK.out.step ho)
        have HV5 := Lib.hid hv
        clear hv ho HQ HV4
        go_wp2_with fail
        (with_reducible refine (rmake_d ng 0 HV5 HFd (by omega) (by omega) HS.out).mono ?_)
        rintro e w6 ⟨s6, A6, k6, c6, rfl, hc6, hv6, ho⟩
        have hk := HK.out.step ho
        obtain ⟨q0, q1, q2, f0, f1, f2⟩ := hk.c3 0 rfl
        have HB := Lib.hid (hk.blk 0 rfl)
        have HO := Lib.hid hk.only
        have HV6 := Lib.hid hv6
        have HC6 := Lib.hid hc6
        clear hk HK hc6 hv6 ho HS HVal
        generalize nrm Q 0 = r at *
        go_wp2_with fail
        refine bodyPost_ret (v := .agg #[.bool s6, .slice A6 k6 c6, .int .i64 (r.e)]) (by simp [results, Tryd.results18, go_sem, q0, q1, q2]) rfl ?_
        exact rdfin HV6 HC6 (by omega) HB.out (noLimb3 _ _ _ _ _) HO.out (only_set3 _ _ _ _ _)
    · have hk5 : ¬ (0 : Int) < (k5 : Int) := by
        have h1 : (R.limbsOf (X % Y)).length = 0 := by rw [R.limbsOf_len0]; omega
        have := HLr.out
        omega
      have HFd : Hid (Few (X / Y)) := HFX1.out.le (Nat.le_succ _)
      have HS : Hid (nrm (sg ng (X / Y)) 0 = nrm Q 0) := by
        show _ = _
        rw [← HVal.out, if_neg (fun h => hrem h.1), Nat.add_zero]
      clear hrem
      go_wp2_with fail
      (with_reducible refine (rmake_d ng 0 HQ HFd (by omega) (by omega) HS.out).mono ?_)
      rintro e w6 ⟨s6, A6, k6, c6, rfl, hc6, hv6, ho⟩
      have hk := HK.out.step ho
      obtain ⟨q0, q1, q2, f0, f1, f2⟩ := hk.c3 0 rfl
      have HB := Lib.hid (hk.blk 0 rfl)
      have HO := Lib.hid hk.only
      have HV6 := Lib.hid hv6
      have HC6 := Lib.hid hc6
      clear hk HK hc6 hv6 ho HS HVal
      generalize nrm Q 0 = r at *
      go_wp2_with fail
      refine bodyPost_ret (v := .agg #[.bool s6, .slice A6 k6 c6, .int .i64 (r.e)]) (by simp [results, Tryd.results18, go_sem, q0, q1, q2]) rfl ?_
      exact rdfin HV6 HC6 (by omega) HB.out (noLimb3 _ _ _ _ _) HO.out (only_set3 _ _ _ _ _)
  case hl =>
    repeat (refine List.forall_mem_cons.2 ⟨?_, ?_⟩; first | exact isV.lasts _ | exact isRN.lasts _)
    exact fun _ h => (by cases h)

end Go.Proofs.YtigpnopeacicpaaDoor

/-
  compasslaw2.Is by value.
-/
namespace Go.Proofs.YtigpnopeacicpaaDoor
set_option linter.unusedSimpArgs false
open Go.RowKit

theorem withs_guardN {P : Program} {l : List Oper} {Ps : List VP} {w : World} {o : Oper} {p : VP} {js : List Nat} {a0 : Act} {g d : Nat} {want : Bool} (b : Bool) (hb : want = !b) (hg : o.guard = some (g, want)) (hd : dstOf l g = some d) (h : withs l Ps w (fun a => a.tmps[d]? = some (.bool b) ∧ p undef w) js a0) : withs l Ps w (fun a => growIf P l o a w p) js a0 :=
  withs_mono (fun _ hh => growIf_no hg hd hh.1 hb hh.2) js a0 h
theorem last_limb {w : World} {A : Option Addr} {k c n : Nat} (h : NV w (.slice A k c) n) (hk : k = (limbsOf n).length) (h0 : 0 < k) : ∃ b o v, A = some ⟨b, o, none⟩ ∧ w.cell? ⟨b, o + (k - 1), none⟩ = some (.int .u64 (v : Int)) ∧ ((v : Int) != 0) = true := by
  obtain ⟨A', c', xs, e, h2, h3, h4, h5⟩ := h
  injection e with e1 e2 e3
  subst e1 e2 e3
  have hx : xs = limbsOf n := by
    have h6 := (limbsOf_take h2.limb).1
    rw [h5, ← hk, List.take_length] at h6
    exact h6
  obtain ⟨b, o, rfl, hc⟩ := h2.read (xs.length - 1) (by omega)
  refine ⟨b, o, _, rfl, hc, ?_⟩
  have hcan := canon_limbsOf n
  rw [← hx] at hcan
  have := hcan (by omega)
  rw [bne_iff_ne]
  rw [List.getElem?_eq_getElem (by omega)]
  simp only [Option.getD_some]
  omega
set_option maxHeartbeats 3200000 in
set_option maxRecDepth 100000 in
theorem is2_w {w : World} {s : Bool} {A : Option Addr} {k c : Nat} {b : Value} {z : Int} {N : Nat} (ha : Hid (IV w (.agg #[.bool s, .slice A k c]) z)) (hc : Hid (Cn s k z)) (hb : Hid (RD w b (nrm z 0))) (bz : Hid (Bnd N (nrm z 0))) (hN : N ≤ 1000000) : Calls Tryd.prog 17 #[.agg #[.bool s, .slice A k c], b] w fun e w' => e = .returned (.bool true) ∧ Only [] w w' := by
  obtain ⟨t, B, m, d, rfl, hcy, hvy⟩ := hb.out
  have hk := ((KB.start w).new 44 [.bool s, .slice A k c]).new 47 [.bool t, .slice B m d, .int .i64 (nrm z 0).e]
  simp only [World.size_alloc] at hk
  have HI := Lib.hid (ha.out.only hk.only)
  have HB2 : Hid (RD _ (.agg #[.bool t, .slice B m d, .int .i64 (nrm z 0).e]) (nrm z 0)) := hb.out.only hk.only
  have HCan : Hid (Can (nrm z 0)) := nrm_can _ _
  have HBd := bz
  have HBd2 := bz
  have HEq : Hid (nrm z 0 = nrm z 0) := rfl
  have HK := Lib.hid hk
  have hmag := ha.out.mag.only hk.only
  have hkl : (k : Int) ≤ 1000000 := by rw [hc.out.2]; exact ha.out.few.len
  clear hk hvy hcy hb ha
  by_cases h0 : k = 0
  · subst h0
    have hz : z = 0 := by
      have h1 := hc.out.2
      have h2 : (limbsOf z.natAbs).length = 0 := h1.symm
      have h3 := limbsOf_len0.1 h2
      omega
    obtain rfl : s = false := by rw [hc.out.1, hz]; rfl
    clear hc hz hmag
    go_enter Tryd.func17, Tryd.ntmps17
    go_upto_region 1 with fail
    apply wp_region_typed2 (by kernel_rfl) [isV _, isRD (nrm z 0), isV _, isV _, isV _, isV _, isV _, isV _, isV _, isV _, isV undef, isV undef, isV undef, isV undef, isV undef, isV undef, isV undef, isV undef, isV undef, isV _, isV _, isV _, isV _, isV _, isV _, isV _, isV _, isV _, isV _, isV _, isV _, isV _, isV _] [[], [0], [], [1, 2], [3], [4], [4, 5], [4, 6], [4, 7], [4, 8], [9], [9, 10], [9], [9, 12], [9, 13], [9, 14], [9, 11, 15], [9, 16], [9, 17], [4, 9, 18], [4, 19], [20], [21], [21, 22], [21, 23], [21, 24], [21, 25], [26], [26, 27], [26, 28], [21, 26, 29], [21, 30], [31]] (by kernel_rfl) (by kernel_rfl)
    case ho =>
      refine owes2_cons (fun wx hox => ?_) ?_
      · skip
        have hk := HK.out.step hox
        obtain ⟨i0, i1, -, -⟩ := hk.c2 1 rfl
        obtain ⟨j0, j1, j2, -, -, -⟩ := hk.c3 0 rfl
        clear hk
        refine withs_plain rfl ?_
        simp only [withs, List.getElem?_cons_zero, List.getElem?_cons_succ, Option.bind, Option.getD]
        repeat (first | (with_reducible refine all_isV ?_) | (with_reducible refine all_isRD ?_; intro sx Ax kx cx hvx hwx))
        go_simp
        (first | exact ⟨Only.refl _ _, isV.self _ _⟩ | exact isV.self _ _)
      refine owes2_cons (fun wx hox => ?_) ?_
      · skip
        have hk := HK.out.step hox
        obtain ⟨i0, i1, -, -⟩ := hk.c2 1 rfl
        obtain ⟨j0, j1, j2, -, -, -⟩ := hk.c3 0 rfl
        clear hk
        refine withs_plain rfl ?_
        simp only [withs, List.getElem?_cons_zero, List.getElem?_cons_succ, Option.bind, Option.getD]
        repeat (first | (with_reducible refine all_isV ?_) | (with_reducible refine all_isRD ?_; intro sx Ax kx cx hvx hwx))
        go_simp
        (with_reducible exact grow_rd (rref_w (Lib.hid (HI.out.only hox))))
      refine owes2_cons (fun wx hox => ?_) ?_
      · skip
        have hk := HK.out.step hox
        obtain ⟨i0, i1, -, -⟩ := hk.c2 1 rfl
        obtain ⟨j0, j1, j2, -, -, -⟩ := hk.c3 0 rfl
        clear hk
        refine withs_plain rfl ?_
        simp only [withs, List.getElem?_cons_zero, List.getElem?_cons_succ, Option.bind, Option.getD]
        repeat (first | (with_reducible refine all_isV ?_) | (with_reducible refine all_isRD ?_; intro sx Ax kx cx hvx hwx))
        go_simp
        (first | exact ⟨Only.refl _ _, isV.self _ _⟩ | exact isV.self _ _)
      refine owes2_cons (fun wx hox => ?_) ?_
      · skip
        have hk := HK.out.step hox
        obtain ⟨i0, i1, -, -⟩ := hk.c2 1 rfl
        obtain ⟨j0, j1, j2, -, -, -⟩ := hk.c3 0 rfl
        clear hk
        refine withs_plain rfl ?_
        simp only [withs, List.getElem?_cons_zero, List.getElem?_cons_succ, Option.bind, Option.getD]
        repeat (first | (with_reducible refine all_isV ?_) | (with_reducible refine all_isRD ?_; intro sx Ax kx cx hvx hwx))
        go_simp
        (with_reducible exact grow_of (rsame_d (RD.of (by assumption) (by assumption)) (Lib.hid (HB2.out.only hox)) HCan HBd HBd2 (by omega) HEq.out))
      refine owes2_cons (fun wx hox => ?_) ?_
      · skip
        have hk := HK.out.step hox
        obtain ⟨i0, i1, -, -⟩ := hk.c2 1 rfl
        obtain ⟨j0, j1, j2, -, -, -⟩ := hk.c3 0 rfl
        clear hk
        refine withs_plain rfl ?_
        simp only [withs, List.getElem?_cons_zero, List.getElem?_cons_succ, Option.bind, Option.getD]
        repeat (first | (with_reducible refine all_isV ?_) | (with_reducible refine all_isRD ?_; intro sx Ax kx cx hvx hwx))
        go_simp
        (first | exact ⟨Only.refl _ _, isV.self _ _⟩ | exact isV.self _ _)
      iterate 5
        refine owes2_cons (fun wx hox => ?_) ?_
        · skip
          have hk := HK.out.step hox
          obtain ⟨i0, i1, -, -⟩ := hk.c2 1 rfl
          obtain ⟨j0, j1, j2, -, -, -⟩ := hk.c3 0 rfl
          clear hk
          refine withs_guard rfl rfl ?_
          simp only [withs, List.getElem?_cons_zero, List.getElem?_cons_succ, Option.bind, Option.getD]
          repeat (first | (with_reducible refine all_isV ?_) | (with_reducible refine all_isRD ?_; intro sx Ax kx cx hvx hwx))
          refine ⟨by kernel_rfl, ?_⟩
          go_simp
          (first | exact ⟨Only.refl _ _, isV.self _ _⟩ | exact isV.self _ _)
      iterate 9
        refine owes2_cons (fun wx hox => ?_) ?_
        · refine withs_guardN true rfl rfl rfl ?_
          simp only [withs, List.getElem?_cons_zero, List.getElem?_cons_succ, Option.bind, Option.getD]
          repeat (first | (with_reducible refine all_isV ?_) | (with_reducible refine all_isRD ?_; intro sx Ax kx cx hvx hwx))
          exact ⟨by kernel_rfl, isV.self _ _⟩
      refine owes2_cons (fun wx hox => ?_) ?_
      · skip
        have hk := HK.out.step hox
        obtain ⟨i0, i1, -, -⟩ := hk.c2 1 rfl
        obtain ⟨j0, j1, j2, -, -, -⟩ := hk.c3 0 rfl
        clear hk
        refine withs_guard rfl rfl ?_
        simp only [withs, List.getElem?_cons_zero, List.getElem?_cons_succ, Option.bind, Option.getD]
        repeat (first | (with_reducible refine all_isV ?_) | (with_reducible refine all_isRD ?_; intro sx Ax kx cx hvx hwx))
        refine ⟨by kernel_rfl, ?_⟩
        go_simp
        (first | exact ⟨Only.refl _ _, isV.self _ _⟩ | exact isV.self _ _)
      iterate 2
        refine owes2_cons (fun wx hox => ?_) ?_
        · skip
          have hk := HK.out.step hox
          obtain ⟨i0, i1, -, -⟩ := hk.c2 1 rfl
          obtain ⟨j0, j1, j2, -, -, -⟩ := hk.c3 0 rfl
          clear hk
          refine withs_plain rfl ?_
          simp only [withs, List.getElem?_cons_zero, List.getElem?_cons_succ, Option.bind, Option.getD]
          repeat (first | (with_reducible refine all_isV ?_) | (with_reducible refine all_isRD ?_; intro sx Ax kx cx hvx hwx))
          go_simp
          (first | exact ⟨Only.refl _ _, isV.self _ _⟩ | exact isV.self _ _)
      iterate 9
        refine owes2_cons (fun wx hox => ?_) ?_
        · skip
          have hk := HK.out.step hox
          obtain ⟨i0, i1, -, -⟩ := hk.c2 1 rfl
          obtain ⟨j0, j1, j2, -, -, -⟩ := hk.c3 0 rfl
          clear hk
          refine withs_guard rfl rfl ?_
          simp only [withs, List.getElem?_cons_zero, List.getElem?_cons_succ, Option.bind, Option.getD]
          repeat (first | (with_reducible refine all_isV ?_) | (with_reducible refine all_isRD ?_; intro sx Ax kx cx hvx hwx))
          refine ⟨by kernel_rfl, ?_⟩
          go_simp
          (first | exact ⟨Only.refl _ _, isV.self _ _⟩ | exact isV.self _ _)
      iterate 2
        refine owes2_cons (fun wx hox => ?_) ?_
        · skip
          have hk := HK.out.step hox
          obtain ⟨i0, i1, -, -⟩ := hk.c2 1 rfl
          obtain ⟨j0, j1, j2, -, -, -⟩ := hk.c3 0 rfl
          clear hk
          refine withs_plain rfl ?_
          simp only [withs, List.getElem?_cons_zero, List.getElem?_cons_succ, Option.bind, Option.getD]
          repeat (first | (with_reducible refine all_isV ?_) | (with_reducible refine all_isRD ?_; intro sx Ax kx cx hvx hwx))
          go_simp
          (first | exact ⟨Only.refl _ _, isV.self _ _⟩ | exact isV.self _ _)
      exact owes2_nil
    case he =>
      intro wx hox
      refine withs_of (by simp only [List.length, List.range, List.range.loop]; exact rfl) ?_
      simp only [withs, List.getElem?_cons_zero, List.getElem?_cons_succ, Option.bind, Option.getD]
      repeat (first | (with_reducible refine all_isV ?_) | (with_reducible refine all_isRD ?_; intro sx Ax kx cx hvx hwx))
      go_simp
      go_wp2_with fail
      go_ret
      exact ⟨rfl, HK.out.only.nil_trans hox⟩
    case hl =>
      repeat (refine List.forall_mem_cons.2 ⟨?_, ?_⟩; first | exact isV.lasts _ | exact isRD.lasts _)
      exact fun _ h => (by cases h)
  · obtain ⟨bl, ol, vl, rfl, hcell, hvl⟩ := last_limb hmag hc.out.2 (by omega)
    obtain ⟨k1, hk1⟩ : ∃ k1, k - 1 = k1 := ⟨_, rfl⟩
    rw [hk1] at hcell
    have e1 : (k : Int) - 1 = (k1 : Int) := by omega
    have e2 : (k1 : Int) < (k : Int) := by omega
    have e3 : (0 : Int) < (k : Int) := by omega
    have e6 : 0 < k := by omega
    have e5 : IntKind.i64.wrap (k1 : Int) = (k1 : Int) := wrap_i64 (by omega)
    have e4 : ((k : Int) == 0) = false := by rw [beq_eq_false_iff_ne]; omega
    clear hc hmag h0 hk1
    go_enter Tryd.func17, Tryd.ntmps17
    go_upto_region 1 with fail
    apply wp_region_typed2 (by kernel_rfl) [isV _, isRD (nrm z 0), isV _, isV _, isV _, isV _, isV _, isV _, isV _, isV _, isV _, isV _, isV _, isV _, isV _, isV _, isV _, isV _, isV _, isV _, isV _, isV _, isV _, isV _, isV _, isV _, isV _, isV undef, isV undef, isV undef, isV _, isV _, isV _] [[], [0], [], [1, 2], [3], [4], [4, 5], [4, 6], [4, 7], [4, 8], [9], [9, 10], [9], [9, 12], [9, 13], [9, 14], [9, 11, 15], [9, 16], [9, 17], [4, 9, 18], [4, 19], [20], [21], [21, 22], [21, 23], [21, 24], [21, 25], [26], [26, 27], [26, 28], [21, 26, 29], [21, 30], [31]] (by kernel_rfl) (by kernel_rfl)
    case ho =>
      refine owes2_cons (fun wx hox => ?_) ?_
      · skip
        have hk := HK.out.step hox
        obtain ⟨i0, i1, -, -⟩ := hk.c2 1 rfl
        obtain ⟨j0, j1, j2, -, -, -⟩ := hk.c3 0 rfl
        have hcl := hox.cell hcell (by simp)
        clear hk
        refine withs_plain rfl ?_
        simp only [withs, List.getElem?_cons_zero, List.getElem?_cons_succ, Option.bind, Option.getD]
        repeat (first | (with_reducible refine all_isV ?_) | (with_reducible refine all_isRD ?_; intro sx Ax kx cx hvx hwx))
        go_simp
        (first | exact ⟨Only.refl _ _, isV.self _ _⟩ | exact isV.self _ _)
      refine owes2_cons (fun wx hox => ?_) ?_
      · skip
        have hk := HK.out.step hox
        obtain ⟨i0, i1, -, -⟩ := hk.c2 1 rfl
        obtain ⟨j0, j1, j2, -, -, -⟩ := hk.c3 0 rfl
        have hcl := hox.cell hcell (by simp)
        clear hk
        refine withs_plain rfl ?_
        simp only [withs, List.getElem?_cons_zero, List.getElem?_cons_succ, Option.bind, Option.getD]
        repeat (first | (with_reducible refine all_isV ?_) | (with_reducible refine all_isRD ?_; intro sx Ax kx cx hvx hwx))
        go_simp
        (with_reducible exact grow_rd (rref_w (Lib.hid (HI.out.only hox))))
      refine owes2_cons (fun wx hox => ?_) ?_
      · skip
        have hk := HK.out.step hox
        obtain ⟨i0, i1, -, -⟩ := hk.c2 1 rfl
        obtain ⟨j0, j1, j2, -, -, -⟩ := hk.c3 0 rfl
        have hcl := hox.cell hcell (by simp)
        clear hk
        refine withs_plain rfl ?_
        simp only [withs, List.getElem?_cons_zero, List.getElem?_cons_succ, Option.bind, Option.getD]
        repeat (first | (with_reducible refine all_isV ?_) | (with_reducible refine all_isRD ?_; intro sx Ax kx cx hvx hwx))
        go_simp
        (first | exact ⟨Only.refl _ _, isV.self _ _⟩ | exact isV.self _ _)
      refine owes2_cons (fun wx hox => ?_) ?_
      · skip
        have hk := HK.out.step hox
        obtain ⟨i0, i1, -, -⟩ := hk.c2 1 rfl
        obtain ⟨j0, j1, j2, -, -, -⟩ := hk.c3 0 rfl
        have hcl := hox.cell hcell (by simp)
        clear hk
        refine withs_plain rfl ?_
        simp only [withs, List.getElem?_cons_zero, List.getElem?_cons_succ, Option.bind, Option.getD]
        repeat (first | (with_reducible refine all_isV ?_) | (with_reducible refine all_isRD ?_; intro sx Ax kx cx hvx hwx))
        go_simp
        (with_reducible exact grow_of (rsame_d (RD.of (by assumption) (by assumption)) (Lib.hid (HB2.out.only hox)) HCan HBd HBd2 (by omega) HEq.out))
      refine owes2_cons (fun wx hox => ?_) ?_
      · skip
        have hk := HK.out.step hox
        obtain ⟨i0, i1, -, -⟩ := hk.c2 1 rfl
        obtain ⟨j0, j1, j2, -, -, -⟩ := hk.c3 0 rfl
        have hcl := hox.cell hcell (by simp)
        clear hk
        refine withs_plain rfl ?_
        simp only [withs, List.getElem?_cons_zero, List.getElem?_cons_succ, Option.bind, Option.getD]
        repeat (first | (with_reducible refine all_isV ?_) | (with_reducible refine all_isRD ?_; intro sx Ax kx cx hvx hwx))
        go_simp
        (first | exact ⟨Only.refl _ _, isV.self _ _⟩ | exact isV.self _ _)
      iterate 15
        refine owes2_cons (fun wx hox => ?_) ?_
        · skip
          have hk := HK.out.step hox
          obtain ⟨i0, i1, -, -⟩ := hk.c2 1 rfl
          obtain ⟨j0, j1, j2, -, -, -⟩ := hk.c3 0 rfl
          have hcl := hox.cell hcell (by simp)
          clear hk
          refine withs_guard rfl rfl ?_
          simp only [withs, List.getElem?_cons_zero, List.getElem?_cons_succ, Option.bind, Option.getD]
          repeat (first | (with_reducible refine all_isV ?_) | (with_reducible refine all_isRD ?_; intro sx Ax kx cx hvx hwx))
          refine ⟨by kernel_rfl, ?_⟩
          go_simp
          (first | exact ⟨Only.refl _ _, isV.self _ _⟩ | exact isV.self _ _)
      iterate 2
        refine owes2_cons (fun wx hox => ?_) ?_
        · skip
          have hk := HK.out.step hox
          obtain ⟨i0, i1, -, -⟩ := hk.c2 1 rfl
          obtain ⟨j0, j1, j2, -, -, -⟩ := hk.c3 0 rfl
          have hcl := hox.cell hcell (by simp)
          clear hk
          refine withs_plain rfl ?_
          simp only [withs, List.getElem?_cons_zero, List.getElem?_cons_succ, Option.bind, Option.getD]
          repeat (first | (with_reducible refine all_isV ?_) | (with_reducible refine all_isRD ?_; intro sx Ax kx cx hvx hwx))
          go_simp
          (first | exact ⟨Only.refl _ _, isV.self _ _⟩ | exact isV.self _ _)
      iterate 5
        refine owes2_cons (fun wx hox => ?_) ?_
        · skip
          have hk := HK.out.step hox
          obtain ⟨i0, i1, -, -⟩ := hk.c2 1 rfl
          obtain ⟨j0, j1, j2, -, -, -⟩ := hk.c3 0 rfl
          have hcl := hox.cell hcell (by simp)
          clear hk
          refine withs_guard rfl rfl ?_
          simp only [withs, List.getElem?_cons_zero, List.getElem?_cons_succ, Option.bind, Option.getD]
          repeat (first | (with_reducible refine all_isV ?_) | (with_reducible refine all_isRD ?_; intro sx Ax kx cx hvx hwx))
          refine ⟨by kernel_rfl, ?_⟩
          go_simp
          (first | exact ⟨Only.refl _ _, isV.self _ _⟩ | exact isV.self _ _)
      iterate 3
        refine owes2_cons (fun wx hox => ?_) ?_
        · refine withs_guardN true rfl rfl rfl ?_
          simp only [withs, List.getElem?_cons_zero, List.getElem?_cons_succ, Option.bind, Option.getD]
          repeat (first | (with_reducible refine all_isV ?_) | (with_reducible refine all_isRD ?_; intro sx Ax kx cx hvx hwx))
          exact ⟨by kernel_rfl, isV.self _ _⟩
      refine owes2_cons (fun wx hox => ?_) ?_
      · skip
        have hk := HK.out.step hox
        obtain ⟨i0, i1, -, -⟩ := hk.c2 1 rfl
        obtain ⟨j0, j1, j2, -, -, -⟩ := hk.c3 0 rfl
        have hcl := hox.cell hcell (by simp)
        clear hk
        refine withs_guard rfl rfl ?_
        simp only [withs, List.getElem?_cons_zero, List.getElem?_cons_succ, Option.bind, Option.getD]
        repeat (first | (with_reducible refine all_isV ?_) | (with_reducible refine all_isRD ?_; intro sx Ax kx cx hvx hwx))
        refine ⟨by kernel_rfl, ?_⟩
        go_simp
        (first | exact ⟨Only.refl _ _, isV.self _ _⟩ | exact isV.self _ _)
      iterate 2
        refine owes2_cons (fun wx hox => ?_) ?_
        · skip
          have hk := HK.out.step hox
          obtain ⟨i0, i1, -, -⟩ := hk.c2 1 rfl
          obtain ⟨j0, j1, j2, -, -, -⟩ := hk.c3 0 rfl
          have hcl := hox.cell hcell (by simp)
          clear hk
          refine withs_plain rfl ?_
          simp only [withs, List.getElem?_cons_zero, List.getElem?_cons_succ, Option.bind, Option.getD]
          repeat (first | (with_reducible refine all_isV ?_) | (with_reducible refine all_isRD ?_; intro sx Ax kx cx hvx hwx))
          go_simp
          (first | exact ⟨Only.refl _ _, isV.self _ _⟩ | exact isV.self _ _)
      exact owes2_nil
    case he =>
      intro wx hox
      refine withs_of (by simp only [List.length, List.range, List.range.loop]; exact rfl) ?_
      simp only [withs, List.getElem?_cons_zero, List.getElem?_cons_succ, Option.bind, Option.getD]
      repeat (first | (with_reducible refine all_isV ?_) | (with_reducible refine all_isRD ?_; intro sx Ax kx cx hvx hwx))
      go_simp
      go_wp2_with fail
      go_ret
      exact ⟨rfl, HK.out.only.nil_trans hox⟩
    case hl =>
      repeat (refine List.forall_mem_cons.2 ⟨?_, ?_⟩; first | exact isV.lasts _ | exact isRD.lasts _)
      exact fun _ h => (by cases h)
end Go.Proofs.YtigpnopeacicpaaDoor
