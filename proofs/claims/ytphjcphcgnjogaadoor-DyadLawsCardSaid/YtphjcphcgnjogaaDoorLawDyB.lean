/-
  DyadLaws: what is light.
-/
import Derived.Test.YtphjcphcgnjogaaDoorLawDyA
namespace Go.Proofs.YtphjcphcgnjogaaDoor
set_option linter.unusedSimpArgs false
open Go.RowKit

set_option maxHeartbeats 3200000 in
set_option maxRecDepth 100000 in
theorem dlaws_in (n1 n2 n3 : Bool) (A1 A2 A3 : Option Addr) (L1 L2 L3 : List Nat) (c1 c2 c3 : Nat) (x y z : Dy) (w : World) (HZ1 : Hid (sg n1 (val L1) = x.z)) (HZ2 : Hid (sg n2 (val L2) = y.z)) (HZ3 : Hid (sg n3 (val L3) = z.z)) (H1 : Hid (LimbsIn w A1 L1)) (H2 : Hid (LimbsIn w A2 L2)) (H3 : Hid (LimbsIn w A3 L3)) (htab : Hid (Tab w)) (hT : Hid (Tab6 w))
    (hl1 : (L1.length : Int) ≤ 40) (hl2 : (L2.length : Int) ≤ 40) (hl3 : (L3.length : Int) ≤ 40) (he1 : -3000 ≤ x.e ∧ x.e ≤ 3000) (he2 : -3000 ≤ y.e ∧ y.e ≤ 3000) (he3 : -3000 ≤ z.e ∧ z.e ≤ 3000) :
    Calls Tryd.prog 6 #[.agg #[.bool n1, .slice A1 L1.length c1, .int .i64 x.e], .agg #[.bool n2, .slice A2 L2.length c2, .int .i64 y.e], .agg #[.bool n3, .slice A3 L3.length c3, .int .i64 z.e]] w fun e w' => e = .returned (.bool true) ∧ Only [] w w' := by
  obtain ⟨N, hN⟩ : ∃ N : Nat, N = 3000 := ⟨_, rfl⟩
  have BX : Hid (Bnd N x) := num_bnd (by omega) (by omega) H1.out.2 HZ1.out he1.1 he1.2
  have BY : Hid (Bnd N y) := num_bnd (by omega) (by omega) H2.out.2 HZ2.out he2.1 he2.2
  have BZ : Hid (Bnd N z) := num_bnd (by omega) (by omega) H3.out.2 HZ3.out he3.1 he3.2
  have hN3 : N ≤ 3000 := by omega
  have BYZ : Hid (Bnd (4 * N + 1) (dAdd y z)) := BY.out.add BZ.out (Nat.le_refl _)
  have BX1 : Hid (Bnd (4 * N + 1) x) := BX.out.mono (by omega)
  have BY1 : Hid (Bnd (4 * N + 1) y) := BY.out.mono (by omega)
  have BXY : Hid (Bnd (4 * N) (dMul x y)) := BX.out.mul BY.out (Nat.le_refl _)
  have BXZ : Hid (Bnd (4 * N) (dMul x z)) := BX.out.mul BZ.out (Nat.le_refl _)
  have BS : Hid (Bnd (4 * N + 1) (dAdd x y)) := BX.out.add BY.out (Nat.le_refl _)
  have BS' : Hid (Bnd (4 * N + 1) (dAdd y x)) := BY.out.add BX.out (Nat.le_refl _)
  have BSS : Hid (Bnd (32 * N + 9) (dSub (dAdd x y) y)) := BS.out.sub BY1.out (by omega)
  have BX2 : Hid (Bnd (32 * N + 9) x) := BX.out.mono (by omega)
  obtain ⟨u, hu⟩ : ∃ u, dMul x (dAdd y z) = u := ⟨_, rfl⟩
  obtain ⟨v, hv⟩ : ∃ v, dAdd (dMul x y) (dMul x z) = v := ⟨_, rfl⟩
  have BU : Hid (Bnd (16 * N + 4) u) := by rw [← hu]; exact BX1.out.mul BYZ.out (by omega)
  have BV : Hid (Bnd (16 * N + 4) v) := by rw [← hv]; exact BXY.out.add BXZ.out (by omega)
  have HUV : Hid (cmpQ u.q v.q = 0) := cmpQ_eq (by rw [← hu, ← hv, dMul_q, dAdd_q, dAdd_q, dMul_q, dMul_q]; grind)
  have HAB : Hid (cmpQ (dAdd x y).q (dAdd y x).q = 0) := cmpQ_eq (by rw [dAdd_q, dAdd_q]; grind)
  have HSS : Hid (cmpQ (dSub (dAdd x y) y).q x.q = 0) := cmpQ_eq (by rw [dSub_q, dAdd_q]; grind)
  have HXX : Hid ((dSub x x).z.sign = 0) := by show _ = _; rw [← q_sign, dSub_q]; exact cmpQ_eq (by grind)
  obtain ⟨pa, hpa⟩ : ∃ p, x.z.sign = p := ⟨_, rfl⟩
  obtain ⟨pb, hpb⟩ : ∃ p, y.z.sign = p := ⟨_, rfl⟩
  obtain ⟨pq, hpq⟩ : ∃ p, pa * pb = p := ⟨_, rfl⟩
  obtain ⟨r, hr⟩ : ∃ r, cmpQ x.q y.q = r := ⟨_, rfl⟩
  have HPQ : Hid ((dMul x y).z.sign = pq) := by show _ = _; rw [← hpq, ← hpa, ← hpb, ← Int.sign_mul]; exact nrm_sign _ _
  have hsm : IntKind.i64.wrap (pa * pb) = pq := by
    have h1 := sign_range (dMul x y).z
    rw [HPQ.out] at h1
    rw [hpq]
    exact wrap_i64 (by omega)
  have hrr := cmpQ_range x.q y.q
  rw [hr] at hrr
  have hw1 : IntKind.i64.wrap r = r := wrap_i64 (by omega)
  have HPA := Lib.hid hpa
  have HPB := Lib.hid hpb
  have HR1 := Lib.hid hr
  have HR2 : Hid (cmpQ y.q x.q = -r) := by show _ = _; rw [cmpQ_swap, hr]
  have HR3 : Hid ((dSub x y).z.sign = r) := by show _ = _; rw [← q_sign, dSub_q, cmpQ_sub0, hr]
  have HU := Lib.hid hu
  have HV := Lib.hid hv
  clear hu hv hpa hpb hpq hr
  have HLT : Hid (lightN [⟨n1, A1, L1.length, c1, x.e⟩, ⟨n2, A2, L2.length, c2, y.e⟩, ⟨n3, A3, L3.length, c3, z.e⟩] = true) := by
    show _ = _
    simp only [lightN, List.all_cons, List.all_nil, NR.ok, Bool.and_true, Bool.and_eq_true, decide_eq_true_eq]
    omega
  clear hN
  have hal : ∀ w : World, (Instr.alloc 51 true (.tuple #[])).run Tryd.prog w = .ok (.pointer (some ⟨w.heap.size, 0, none⟩)) (w.alloc (.cells #[.bool false, .slice none 0 0, .int .i64 0] 51)) := fun _ => by kernel_rfl
  have HAL := Lib.hid hal
  have hk := (((KB.start w).new 48 [.bool n1, .slice A1 L1.length c1, .int .i64 x.e]).new 48 [.bool n2, .slice A2 L2.length c2, .int .i64 y.e]).new 48 [.bool n3, .slice A3 L3.length c3, .int .i64 z.e]
  simp only [World.size_alloc] at hk
  replace H1 := Lib.hid (H1.out.only hk.only)
  replace H2 := Lib.hid (H2.out.only hk.only)
  replace H3 := Lib.hid (H3.out.only hk.only)
  have HK := Lib.hid hk
  have hlv := light3_v (w := ((w.alloc (.cells #[.bool n1, .slice A1 L1.length c1, .int .i64 x.e] 48)).alloc (.cells #[.bool n2, .slice A2 L2.length c2, .int .i64 y.e] 48)).alloc (.cells #[.bool n3, .slice A3 L3.length c3, .int .i64 z.e] 48)) [⟨n1, A1, L1.length, c1, x.e⟩, ⟨n2, A2, L2.length, c2, y.e⟩, ⟨n3, A3, L3.length, c3, z.e⟩] 3 (Lib.hid rfl) (by omega)
  rw [HLT.out] at hlv
  simp only [flatN, List.flatMap_cons, List.flatMap_nil, List.cons_append, List.nil_append, World.size_alloc] at hlv
  have HLV := Lib.hid hlv
  clear hlv hk hal HLT
  go_enter Tryd.func6, Tryd.ntmps6
  go_wp2_with fail
  (with_reducible refine HLV.out.mono ?_)
  rintro e w1 ⟨rfl, ho⟩
  replace HK := Lib.hid (HK.out.step ho)
  replace H1 := Lib.hid (H1.out.only ho)
  replace H2 := Lib.hid (H2.out.only ho)
  replace H3 := Lib.hid (H3.out.only ho)
  clear ho HLV
  go_wp2_with fail
  (with_reducible refine (alive3_any _ (Lib.hid (htab.out.only HK.out.only)) (Lib.hid (hT.out.keep HK.out.only))).mono ?_)
  rintro e wq ⟨rfl, ho⟩
  replace HK := Lib.hid (HK.out.step ho)
  replace H1 := Lib.hid (H1.out.only ho)
  replace H2 := Lib.hid (H2.out.only ho)
  replace H3 := Lib.hid (H3.out.only ho)
  clear ho
  go_upto_region 3 with fail
  have hal := HAL.out
  apply wp_region_typed_tail3 9 [6, 7, 8] 51 #[.bool false, .slice none 0 0, .int .i64 0] (by kernel_rfl) (by kernel_rfl) hal (by kernel_rfl) [isV _, isDV x, isV _, isDV y, isV _, isDV z, isPtr wq 51 [.bool false, .slice none 0 0, .int .i64 0], isPtr wq 51 [.bool false, .slice none 0 0, .int .i64 0], isPtr wq 51 [.bool false, .slice none 0 0, .int .i64 0]] [[], [0], [], [2], [], [4], [], [], []] (by kernel_rfl) (by kernel_rfl) (by kernel_rfl)
  case ho =>
    simp only [List.take_succ_cons, List.take_zero]
    refine owes2_cons (fun wx hox => ?_) ?_
    · skip
      have hk := HK.out.step hox
      obtain ⟨i0, i1, i2, -, -, -⟩ := hk.c3 2 rfl
      obtain ⟨j0, j1, j2, -, -, -⟩ := hk.c3 1 rfl
      obtain ⟨k0, k1, k2, -, -, -⟩ := hk.c3 0 rfl
      clear hk
      refine withs_plain rfl ?_
      simp only [withs, List.getElem?_cons_zero, List.getElem?_cons_succ, Option.bind, Option.getD]
      repeat (first | (with_reducible refine all_isV ?_) | (with_reducible refine all_isWC ?_; intro sx Ax kx cx hvx hwx) | (with_reducible refine all_isNR ?_; intro Ax kx cx hvx) | (with_reducible refine all_isNV ?_; intro Ax kx cx hvx) | (with_reducible refine all_isDV ?_; intro sx Ax kx cx hvx) | (with_reducible refine all_isWV ?_; intro sx Ax kx cx hvx) | (with_reducible refine all_isD ?_; intro sx Ax kx cx hvx hwx) | (with_reducible refine all_isRow ?_; intro gx' hbx) | (with_reducible refine all_isPtr ?_; intro gp' hbp hgp))
      go_simp
      exact ⟨Only.refl _ _, isV.self _ _⟩
    refine owes2_cons (fun wx hox => ?_) ?_
    · skip
      have hk := HK.out.step hox
      obtain ⟨i0, i1, i2, -, -, -⟩ := hk.c3 2 rfl
      obtain ⟨j0, j1, j2, -, -, -⟩ := hk.c3 1 rfl
      obtain ⟨k0, k1, k2, -, -, -⟩ := hk.c3 0 rfl
      clear hk
      refine withs_plain rfl ?_
      simp only [withs, List.getElem?_cons_zero, List.getElem?_cons_succ, Option.bind, Option.getD]
      repeat (first | (with_reducible refine all_isV ?_) | (with_reducible refine all_isWC ?_; intro sx Ax kx cx hvx hwx) | (with_reducible refine all_isNR ?_; intro Ax kx cx hvx) | (with_reducible refine all_isNV ?_; intro Ax kx cx hvx) | (with_reducible refine all_isDV ?_; intro sx Ax kx cx hvx) | (with_reducible refine all_isWV ?_; intro sx Ax kx cx hvx) | (with_reducible refine all_isD ?_; intro sx Ax kx cx hvx hwx) | (with_reducible refine all_isRow ?_; intro gx' hbx) | (with_reducible refine all_isPtr ?_; intro gp' hbp hgp))
      go_simp
      (with_reducible exact grow_dv (numOfV_any n1 A1 L1 c1 x _ HZ1.out (Lib.hid (H1.out.only hox)) hl1))
    refine owes2_cons (fun wx hox => ?_) ?_
    · skip
      have hk := HK.out.step hox
      obtain ⟨i0, i1, i2, -, -, -⟩ := hk.c3 2 rfl
      obtain ⟨j0, j1, j2, -, -, -⟩ := hk.c3 1 rfl
      obtain ⟨k0, k1, k2, -, -, -⟩ := hk.c3 0 rfl
      clear hk
      refine withs_plain rfl ?_
      simp only [withs, List.getElem?_cons_zero, List.getElem?_cons_succ, Option.bind, Option.getD]
      repeat (first | (with_reducible refine all_isV ?_) | (with_reducible refine all_isWC ?_; intro sx Ax kx cx hvx hwx) | (with_reducible refine all_isNR ?_; intro Ax kx cx hvx) | (with_reducible refine all_isNV ?_; intro Ax kx cx hvx) | (with_reducible refine all_isDV ?_; intro sx Ax kx cx hvx) | (with_reducible refine all_isWV ?_; intro sx Ax kx cx hvx) | (with_reducible refine all_isD ?_; intro sx Ax kx cx hvx hwx) | (with_reducible refine all_isRow ?_; intro gx' hbx) | (with_reducible refine all_isPtr ?_; intro gp' hbp hgp))
      go_simp
      exact ⟨Only.refl _ _, isV.self _ _⟩
    refine owes2_cons (fun wx hox => ?_) ?_
    · skip
      have hk := HK.out.step hox
      obtain ⟨i0, i1, i2, -, -, -⟩ := hk.c3 2 rfl
      obtain ⟨j0, j1, j2, -, -, -⟩ := hk.c3 1 rfl
      obtain ⟨k0, k1, k2, -, -, -⟩ := hk.c3 0 rfl
      clear hk
      refine withs_plain rfl ?_
      simp only [withs, List.getElem?_cons_zero, List.getElem?_cons_succ, Option.bind, Option.getD]
      repeat (first | (with_reducible refine all_isV ?_) | (with_reducible refine all_isWC ?_; intro sx Ax kx cx hvx hwx) | (with_reducible refine all_isNR ?_; intro Ax kx cx hvx) | (with_reducible refine all_isNV ?_; intro Ax kx cx hvx) | (with_reducible refine all_isDV ?_; intro sx Ax kx cx hvx) | (with_reducible refine all_isWV ?_; intro sx Ax kx cx hvx) | (with_reducible refine all_isD ?_; intro sx Ax kx cx hvx hwx) | (with_reducible refine all_isRow ?_; intro gx' hbx) | (with_reducible refine all_isPtr ?_; intro gp' hbp hgp))
      go_simp
      (with_reducible exact grow_dv (numOfV_any n2 A2 L2 c2 y _ HZ2.out (Lib.hid (H2.out.only hox)) hl2))
    refine owes2_cons (fun wx hox => ?_) ?_
    · skip
      have hk := HK.out.step hox
      obtain ⟨i0, i1, i2, -, -, -⟩ := hk.c3 2 rfl
      obtain ⟨j0, j1, j2, -, -, -⟩ := hk.c3 1 rfl
      obtain ⟨k0, k1, k2, -, -, -⟩ := hk.c3 0 rfl
      clear hk
      refine withs_plain rfl ?_
      simp only [withs, List.getElem?_cons_zero, List.getElem?_cons_succ, Option.bind, Option.getD]
      repeat (first | (with_reducible refine all_isV ?_) | (with_reducible refine all_isWC ?_; intro sx Ax kx cx hvx hwx) | (with_reducible refine all_isNR ?_; intro Ax kx cx hvx) | (with_reducible refine all_isNV ?_; intro Ax kx cx hvx) | (with_reducible refine all_isDV ?_; intro sx Ax kx cx hvx) | (with_reducible refine all_isWV ?_; intro sx Ax kx cx hvx) | (with_reducible refine all_isD ?_; intro sx Ax kx cx hvx hwx) | (with_reducible refine all_isRow ?_; intro gx' hbx) | (with_reducible refine all_isPtr ?_; intro gp' hbp hgp))
      go_simp
      exact ⟨Only.refl _ _, isV.self _ _⟩
    refine owes2_cons (fun wx hox => ?_) ?_
    · skip
      have hk := HK.out.step hox
      obtain ⟨i0, i1, i2, -, -, -⟩ := hk.c3 2 rfl
      obtain ⟨j0, j1, j2, -, -, -⟩ := hk.c3 1 rfl
      obtain ⟨k0, k1, k2, -, -, -⟩ := hk.c3 0 rfl
      clear hk
      refine withs_plain rfl ?_
      simp only [withs, List.getElem?_cons_zero, List.getElem?_cons_succ, Option.bind, Option.getD]
      repeat (first | (with_reducible refine all_isV ?_) | (with_reducible refine all_isWC ?_; intro sx Ax kx cx hvx hwx) | (with_reducible refine all_isNR ?_; intro Ax kx cx hvx) | (with_reducible refine all_isNV ?_; intro Ax kx cx hvx) | (with_reducible refine all_isDV ?_; intro sx Ax kx cx hvx) | (with_reducible refine all_isWV ?_; intro sx Ax kx cx hvx) | (with_reducible refine all_isD ?_; intro sx Ax kx cx hvx hwx) | (with_reducible refine all_isRow ?_; intro gx' hbx) | (with_reducible refine all_isPtr ?_; intro gp' hbp hgp))
      go_simp
      (with_reducible exact grow_dv (numOfV_any n3 A3 L3 c3 z _ HZ3.out (Lib.hid (H3.out.only hox)) hl3))
    refine owes2_cons (fun wx hox => ?_) ?_
    · skip
      have hk := HK.out.step hox
      obtain ⟨i0, i1, i2, -, -, -⟩ := hk.c3 2 rfl
      obtain ⟨j0, j1, j2, -, -, -⟩ := hk.c3 1 rfl
      obtain ⟨k0, k1, k2, -, -, -⟩ := hk.c3 0 rfl
      clear hk
      refine withs_plain rfl ?_
      simp only [withs, List.getElem?_cons_zero, List.getElem?_cons_succ, Option.bind, Option.getD]
      repeat (first | (with_reducible refine all_isV ?_) | (with_reducible refine all_isWC ?_; intro sx Ax kx cx hvx hwx) | (with_reducible refine all_isNR ?_; intro Ax kx cx hvx) | (with_reducible refine all_isNV ?_; intro Ax kx cx hvx) | (with_reducible refine all_isDV ?_; intro sx Ax kx cx hvx) | (with_reducible refine all_isWV ?_; intro sx Ax kx cx hvx) | (with_reducible refine all_isD ?_; intro sx Ax kx cx hvx hwx) | (with_reducible refine all_isRow ?_; intro gx' hbx) | (with_reducible refine all_isPtr ?_; intro gp' hbp hgp))
      go_simp
      (exact isPtr.new hox _ _)
    refine owes2_cons (fun wx hox => ?_) ?_
    · skip
      have hk := HK.out.step hox
      obtain ⟨i0, i1, i2, -, -, -⟩ := hk.c3 2 rfl
      obtain ⟨j0, j1, j2, -, -, -⟩ := hk.c3 1 rfl
      obtain ⟨k0, k1, k2, -, -, -⟩ := hk.c3 0 rfl
      clear hk
      refine withs_plain rfl ?_
      simp only [withs, List.getElem?_cons_zero, List.getElem?_cons_succ, Option.bind, Option.getD]
      repeat (first | (with_reducible refine all_isV ?_) | (with_reducible refine all_isWC ?_; intro sx Ax kx cx hvx hwx) | (with_reducible refine all_isNR ?_; intro Ax kx cx hvx) | (with_reducible refine all_isNV ?_; intro Ax kx cx hvx) | (with_reducible refine all_isDV ?_; intro sx Ax kx cx hvx) | (with_reducible refine all_isWV ?_; intro sx Ax kx cx hvx) | (with_reducible refine all_isD ?_; intro sx Ax kx cx hvx hwx) | (with_reducible refine all_isRow ?_; intro gx' hbx) | (with_reducible refine all_isPtr ?_; intro gp' hbp hgp))
      go_simp
      (exact isPtr.new hox _ _)
    refine owes2_cons (fun wx hox => ?_) ?_
    · skip
      have hk := HK.out.step hox
      obtain ⟨i0, i1, i2, -, -, -⟩ := hk.c3 2 rfl
      obtain ⟨j0, j1, j2, -, -, -⟩ := hk.c3 1 rfl
      obtain ⟨k0, k1, k2, -, -, -⟩ := hk.c3 0 rfl
      clear hk
      refine withs_plain rfl ?_
      simp only [withs, List.getElem?_cons_zero, List.getElem?_cons_succ, Option.bind, Option.getD]
      repeat (first | (with_reducible refine all_isV ?_) | (with_reducible refine all_isWC ?_; intro sx Ax kx cx hvx hwx) | (with_reducible refine all_isNR ?_; intro Ax kx cx hvx) | (with_reducible refine all_isNV ?_; intro Ax kx cx hvx) | (with_reducible refine all_isDV ?_; intro sx Ax kx cx hvx) | (with_reducible refine all_isWV ?_; intro sx Ax kx cx hvx) | (with_reducible refine all_isD ?_; intro sx Ax kx cx hvx hwx) | (with_reducible refine all_isRow ?_; intro gx' hbx) | (with_reducible refine all_isPtr ?_; intro gp' hbp hgp))
      go_simp
      (exact isPtr.new hox _ _)
    exact owes2_nil
  case he =>
    simp only [List.drop_succ_cons, List.drop_zero]
    intro wx hox
    refine withs_of (by simp only [List.length, List.range, List.range.loop]; exact rfl) ?_
    simp only [withs, List.getElem?_cons_zero, List.getElem?_cons_succ, Option.bind, Option.getD]
    with_reducible refine all_isV ?_
    with_reducible refine all_isDV ?_
    intro s1 A1 k1 c1 hv1
    with_reducible refine all_isV ?_
    with_reducible refine all_isDV ?_
    intro s3 A3 k3 c3 hv3
    with_reducible refine all_isV ?_
    with_reducible refine all_isDV ?_
    intro s5 A5 k5 c5 hv5
    with_reducible refine all_isPtr ?_
    intro g6 hb6 hg6
    with_reducible refine all_isPtr ?_
    intro g7 hb7 hg7
    with_reducible refine all_isPtr ?_
    intro g8 hb8 hg8
    go_simp
    intro hap
    have n67 : ¬ g6 = g7 := fun hc => hap 6 (by decide) 7 (by decide) (by decide) 7 8 rfl rfl (by rw [hc]; rfl)
    have n68 : ¬ g6 = g8 := fun hc => hap 6 (by decide) 8 (by decide) (by decide) 7 9 rfl rfl (by rw [hc]; rfl)
    have n78 : ¬ g7 = g8 := fun hc => hap 7 (by decide) 8 (by decide) (by decide) 8 9 rfl rfl (by rw [hc]; rfl)
    clear hap
    have m67 : ¬ g7 = g6 := fun hc => n67 hc.symm
    have m68 : ¬ g8 = g6 := fun hc => n68 hc.symm
    have m78 : ¬ g8 = g7 := fun hc => n78 hc.symm
    have bl6 := hb6.out
    have bl7 := hb7.out
    have bl8 := hb8.out
    have q60 := bl6.cell 0
    have q61 := bl6.cell 1
    have q62 := bl6.cell 2
    have q70 := bl7.cell 0
    have q71 := bl7.cell 1
    have q72 := bl7.cell 2
    have q80 := bl8.cell 0
    have q81 := bl8.cell 1
    have q82 := bl8.cell 2
    have f60 := bl6.frozen 0
    have f61 := bl6.frozen 1
    have f62 := bl6.frozen 2
    have f70 := bl7.frozen 0
    have f71 := bl7.frozen 1
    have f72 := bl7.frozen 2
    have f80 := bl8.frozen 0
    have f81 := bl8.frozen 1
    have f82 := bl8.frozen 2
    simp only [List.getElem?_cons_zero, List.getElem?_cons_succ] at q60 q61 q62 q70 q71 q72 q80 q81 q82
    have hsz := HK.out.only.size
    have he0 : DB w wx [] := (DB.start w).step (HK.out.only.nil_trans hox)
    have he1 := he0.adopt bl6 ⟨_, _, _, rfl⟩ (noLimb3 _ _ _ _ _) (Nat.le_trans hsz hg6.out) (fun i y h => by simp at h) hv1.out
    have he2 := he1.adopt (bl7.set3 m67) ⟨_, _, _, rfl⟩ (noLimb3 _ _ _ _ _) (Nat.le_trans hsz hg7.out) (fun i y h => by
      rcases i with _ | i
      · obtain rfl := (Option.some.inj h).symm; exact n67
      · simp at h) (hv3.out.set3 bl6 (noLimb3 _ _ _ _ _))
    have he3 := he2.adopt ((bl8.set3 m68).set3 m78) ⟨_, _, _, rfl⟩ (noLimb3 _ _ _ _ _) (Nat.le_trans hsz hg8.out) (fun i y h => by
      rcases i with _ | _ | i
      · obtain rfl := (Option.some.inj h).symm; exact n78
      · obtain rfl := (Option.some.inj h).symm; exact n68
      · simp at h) ((hv5.out.set3 bl6 (noLimb3 _ _ _ _ _)).set3 (bl7.set3 m67) (noLimb3 _ _ _ _ _))
    have HE := Lib.hid he3
    clear he0 he1 he2 he3 bl6 bl7 bl8 hb6 hb7 hb8 hv1 hv3 hv5 hox HK H1 H2 H3 hsz
    go_upto_region 4 with fail
    clear q60 q61 q62 q70 q71 q72 q80 q81 q82 f60 f61 f62 f70 f71 f72 f80 f81 f82 n67 n68 n78 m67 m68 m78 hg6 hg7 hg8
    generalize ((((((((wx.setCell _ _).setCell _ _).setCell _ _).setCell _ _).setCell _ _).setCell _ _).setCell _ _).setCell _ _).setCell _ _ = wv at *
    apply wp_region_typed_tail2 6 (by kernel_rfl) [isV _, isV _, isV _, isD (dAdd y z), isD u, isPtr wv 51 [.bool false, .slice none 0 0, .int .i64 0]] [[], [], [], [1, 2], [0, 3], []] (by kernel_rfl) (by kernel_rfl) (by kernel_rfl)
    case ho =>
      simp only [List.take_succ_cons, List.take_zero]
      refine owes2_cons (fun wx hox => ?_) ?_
      · skip
        have he := Lib.hid (HE.out.step hox)
        have htx := Lib.hid (hT.out.keep he.out.only)
        obtain ⟨i0, i1, i2, -, -, -⟩ := DB.cells he 2 rfl
        obtain ⟨j0, j1, j2, -, -, -⟩ := DB.cells he 1 rfl
        obtain ⟨k0, k1, k2, -, -, -⟩ := DB.cells he 0 rfl
        have ivx := DB.iv he 2 rfl
        have ivy := DB.iv he 1 rfl
        have ivz := DB.iv he 0 rfl
        clear he
        refine withs_plain rfl ?_
        simp only [withs, List.getElem?_cons_zero, List.getElem?_cons_succ, Option.bind, Option.getD]
        repeat (first | (with_reducible refine all_isV ?_) | (with_reducible refine all_isWC ?_; intro sx Ax kx cx hvx hwx) | (with_reducible refine all_isNR ?_; intro Ax kx cx hvx) | (with_reducible refine all_isNV ?_; intro Ax kx cx hvx) | (with_reducible refine all_isDV ?_; intro sx Ax kx cx hvx) | (with_reducible refine all_isWV ?_; intro sx Ax kx cx hvx) | (with_reducible refine all_isD ?_; intro sx Ax kx cx hvx hwx) | (with_reducible refine all_isRow ?_; intro gx' hbx) | (with_reducible refine all_isPtr ?_; intro gp' hbp hgp))
        go_simp
        exact ⟨Only.refl _ _, isV.self _ _⟩
      refine owes2_cons (fun wx hox => ?_) ?_
      · skip
        have he := Lib.hid (HE.out.step hox)
        have htx := Lib.hid (hT.out.keep he.out.only)
        obtain ⟨i0, i1, i2, -, -, -⟩ := DB.cells he 2 rfl
        obtain ⟨j0, j1, j2, -, -, -⟩ := DB.cells he 1 rfl
        obtain ⟨k0, k1, k2, -, -, -⟩ := DB.cells he 0 rfl
        have ivx := DB.iv he 2 rfl
        have ivy := DB.iv he 1 rfl
        have ivz := DB.iv he 0 rfl
        clear he
        refine withs_plain rfl ?_
        simp only [withs, List.getElem?_cons_zero, List.getElem?_cons_succ, Option.bind, Option.getD]
        repeat (first | (with_reducible refine all_isV ?_) | (with_reducible refine all_isWC ?_; intro sx Ax kx cx hvx hwx) | (with_reducible refine all_isNR ?_; intro Ax kx cx hvx) | (with_reducible refine all_isNV ?_; intro Ax kx cx hvx) | (with_reducible refine all_isDV ?_; intro sx Ax kx cx hvx) | (with_reducible refine all_isWV ?_; intro sx Ax kx cx hvx) | (with_reducible refine all_isD ?_; intro sx Ax kx cx hvx hwx) | (with_reducible refine all_isRow ?_; intro gx' hbx) | (with_reducible refine all_isPtr ?_; intro gp' hbp hgp))
        go_simp
        exact ⟨Only.refl _ _, isV.self _ _⟩
      refine owes2_cons (fun wx hox => ?_) ?_
      · skip
        have he := Lib.hid (HE.out.step hox)
        have htx := Lib.hid (hT.out.keep he.out.only)
        obtain ⟨i0, i1, i2, -, -, -⟩ := DB.cells he 2 rfl
        obtain ⟨j0, j1, j2, -, -, -⟩ := DB.cells he 1 rfl
        obtain ⟨k0, k1, k2, -, -, -⟩ := DB.cells he 0 rfl
        have ivx := DB.iv he 2 rfl
        have ivy := DB.iv he 1 rfl
        have ivz := DB.iv he 0 rfl
        clear he
        refine withs_plain rfl ?_
        simp only [withs, List.getElem?_cons_zero, List.getElem?_cons_succ, Option.bind, Option.getD]
        repeat (first | (with_reducible refine all_isV ?_) | (with_reducible refine all_isWC ?_; intro sx Ax kx cx hvx hwx) | (with_reducible refine all_isNR ?_; intro Ax kx cx hvx) | (with_reducible refine all_isNV ?_; intro Ax kx cx hvx) | (with_reducible refine all_isDV ?_; intro sx Ax kx cx hvx) | (with_reducible refine all_isWV ?_; intro sx Ax kx cx hvx) | (with_reducible refine all_isD ?_; intro sx Ax kx cx hvx hwx) | (with_reducible refine all_isRow ?_; intro gx' hbx) | (with_reducible refine all_isPtr ?_; intro gp' hbp hgp))
        go_simp
        exact ⟨Only.refl _ _, isV.self _ _⟩
      refine owes2_cons (fun wx hox => ?_) ?_
      · skip
        have he := Lib.hid (HE.out.step hox)
        have htx := Lib.hid (hT.out.keep he.out.only)
        obtain ⟨i0, i1, i2, -, -, -⟩ := DB.cells he 2 rfl
        obtain ⟨j0, j1, j2, -, -, -⟩ := DB.cells he 1 rfl
        obtain ⟨k0, k1, k2, -, -, -⟩ := DB.cells he 0 rfl
        have ivx := DB.iv he 2 rfl
        have ivy := DB.iv he 1 rfl
        have ivz := DB.iv he 0 rfl
        clear he
        refine withs_plain rfl ?_
        simp only [withs, List.getElem?_cons_zero, List.getElem?_cons_succ, Option.bind, Option.getD]
        repeat (first | (with_reducible refine all_isV ?_) | (with_reducible refine all_isWC ?_; intro sx Ax kx cx hvx hwx) | (with_reducible refine all_isNR ?_; intro Ax kx cx hvx) | (with_reducible refine all_isNV ?_; intro Ax kx cx hvx) | (with_reducible refine all_isDV ?_; intro sx Ax kx cx hvx) | (with_reducible refine all_isWV ?_; intro sx Ax kx cx hvx) | (with_reducible refine all_isD ?_; intro sx Ax kx cx hvx hwx) | (with_reducible refine all_isRow ?_; intro gx' hbx) | (with_reducible refine all_isPtr ?_; intro gp' hbp hgp))
        go_simp
        (with_reducible exact grow_d (add_d (DV.of (by assumption)) (DV.of (by assumption)) BY BZ (by omega) htx))
      refine owes2_cons (fun wx hox => ?_) ?_
      · skip
        have he := Lib.hid (HE.out.step hox)
        have htx := Lib.hid (hT.out.keep he.out.only)
        obtain ⟨i0, i1, i2, -, -, -⟩ := DB.cells he 2 rfl
        obtain ⟨j0, j1, j2, -, -, -⟩ := DB.cells he 1 rfl
        obtain ⟨k0, k1, k2, -, -, -⟩ := DB.cells he 0 rfl
        have ivx := DB.iv he 2 rfl
        have ivy := DB.iv he 1 rfl
        have ivz := DB.iv he 0 rfl
        clear he
        refine withs_plain rfl ?_
        simp only [withs, List.getElem?_cons_zero, List.getElem?_cons_succ, Option.bind, Option.getD]
        repeat (first | (with_reducible refine all_isV ?_) | (with_reducible refine all_isWC ?_; intro sx Ax kx cx hvx hwx) | (with_reducible refine all_isNR ?_; intro Ax kx cx hvx) | (with_reducible refine all_isNV ?_; intro Ax kx cx hvx) | (with_reducible refine all_isDV ?_; intro sx Ax kx cx hvx) | (with_reducible refine all_isWV ?_; intro sx Ax kx cx hvx) | (with_reducible refine all_isD ?_; intro sx Ax kx cx hvx hwx) | (with_reducible refine all_isRow ?_; intro gx' hbx) | (with_reducible refine all_isPtr ?_; intro gp' hbp hgp))
        go_simp
        (with_reducible exact grow_d (mulV_d u HU.out (DV.of (by assumption)) (DV.of (by assumption)) BX1 BYZ (by omega) htx))
      refine owes2_cons (fun wx hox => ?_) ?_
      · skip
        have he := Lib.hid (HE.out.step hox)
        have htx := Lib.hid (hT.out.keep he.out.only)
        obtain ⟨i0, i1, i2, -, -, -⟩ := DB.cells he 2 rfl
        obtain ⟨j0, j1, j2, -, -, -⟩ := DB.cells he 1 rfl
        obtain ⟨k0, k1, k2, -, -, -⟩ := DB.cells he 0 rfl
        have ivx := DB.iv he 2 rfl
        have ivy := DB.iv he 1 rfl
        have ivz := DB.iv he 0 rfl
        clear he
        refine withs_plain rfl ?_
        simp only [withs, List.getElem?_cons_zero, List.getElem?_cons_succ, Option.bind, Option.getD]
        repeat (first | (with_reducible refine all_isV ?_) | (with_reducible refine all_isWC ?_; intro sx Ax kx cx hvx hwx) | (with_reducible refine all_isNR ?_; intro Ax kx cx hvx) | (with_reducible refine all_isNV ?_; intro Ax kx cx hvx) | (with_reducible refine all_isDV ?_; intro sx Ax kx cx hvx) | (with_reducible refine all_isWV ?_; intro sx Ax kx cx hvx) | (with_reducible refine all_isD ?_; intro sx Ax kx cx hvx hwx) | (with_reducible refine all_isRow ?_; intro gx' hbx) | (with_reducible refine all_isPtr ?_; intro gp' hbp hgp))
        go_simp
        (exact isPtr.new hox _ _)
      exact owes2_nil
    case he =>
      simp only [List.drop_succ_cons, List.drop_zero]
      intro wx hox
      refine withs_of (by simp only [List.length, List.range, List.range.loop]; exact rfl) ?_
      simp only [withs, List.getElem?_cons_zero, List.getElem?_cons_succ, Option.bind, Option.getD]
      with_reducible refine all_isV ?_
      with_reducible refine all_isV ?_
      with_reducible refine all_isV ?_
      with_reducible refine all_isD ?_
      intro s3 A3 k3 c3 hv3 hw3
      with_reducible refine all_isD ?_
      intro s4 A4 k4 c4 hv4 hw4
      with_reducible refine all_isPtr ?_
      intro g5 hb5 hg5
      go_simp
      have bl := hb5.out
      have q0 := bl.cell 0
      have q1 := bl.cell 1
      have q2 := bl.cell 2
      have f0 := bl.frozen 0
      have f1 := bl.frozen 1
      have f2 := bl.frozen 2
      simp only [List.getElem?_cons_zero, List.getElem?_cons_succ] at q0 q1 q2
      have he1 := (HE.out.step hox).adopt bl ⟨_, _, _, rfl⟩ (noLimb3 _ _ _ _ _) (Nat.le_trans HE.out.only.size hg5.out) (fun i y h hc => by
        have h1 := (HE.out.all i y h).1.lt
        have h2 := hg5.out
        omega) hv4.out
      replace HE := Lib.hid he1
      clear he1 bl hb5 hv4 hox
      go_upto_region 5 with fail
      clear q0 q1 q2 f0 f1 f2
      generalize ((wx.setCell _ _).setCell _ _).setCell _ _ = wu at *
      apply wp_region_typed_tail2 8 (by kernel_rfl) [isV _, isV _, isD (dMul x y), isV _, isV _, isD (dMul x z), isD v, isPtr wu 51 [.bool false, .slice none 0 0, .int .i64 0]] [[], [], [0, 1], [], [], [3, 4], [2, 5], []] (by kernel_rfl) (by kernel_rfl) (by kernel_rfl)
      case ho =>
        simp only [List.take_succ_cons, List.take_zero]
        refine owes2_cons (fun wx hox => ?_) ?_
        · skip
          have he := Lib.hid (HE.out.step hox)
          have htx := Lib.hid (hT.out.keep he.out.only)
          obtain ⟨i0, i1, i2, -, -, -⟩ := DB.cells he 3 rfl
          obtain ⟨j0, j1, j2, -, -, -⟩ := DB.cells he 2 rfl
          obtain ⟨k0, k1, k2, -, -, -⟩ := DB.cells he 1 rfl
          have ivx := DB.iv he 3 rfl
          have ivy := DB.iv he 2 rfl
          have ivz := DB.iv he 1 rfl
          clear he
          refine withs_plain rfl ?_
          simp only [withs, List.getElem?_cons_zero, List.getElem?_cons_succ, Option.bind, Option.getD]
          repeat (first | (with_reducible refine all_isV ?_) | (with_reducible refine all_isWC ?_; intro sx Ax kx cx hvx hwx) | (with_reducible refine all_isNR ?_; intro Ax kx cx hvx) | (with_reducible refine all_isNV ?_; intro Ax kx cx hvx) | (with_reducible refine all_isDV ?_; intro sx Ax kx cx hvx) | (with_reducible refine all_isWV ?_; intro sx Ax kx cx hvx) | (with_reducible refine all_isD ?_; intro sx Ax kx cx hvx hwx) | (with_reducible refine all_isRow ?_; intro gx' hbx) | (with_reducible refine all_isPtr ?_; intro gp' hbp hgp))
          go_simp
          exact ⟨Only.refl _ _, isV.self _ _⟩
        refine owes2_cons (fun wx hox => ?_) ?_
        · skip
          have he := Lib.hid (HE.out.step hox)
          have htx := Lib.hid (hT.out.keep he.out.only)
          obtain ⟨i0, i1, i2, -, -, -⟩ := DB.cells he 3 rfl
          obtain ⟨j0, j1, j2, -, -, -⟩ := DB.cells he 2 rfl
          obtain ⟨k0, k1, k2, -, -, -⟩ := DB.cells he 1 rfl
          have ivx := DB.iv he 3 rfl
          have ivy := DB.iv he 2 rfl
          have ivz := DB.iv he 1 rfl
          clear he
          refine withs_plain rfl ?_
          simp only [withs, List.getElem?_cons_zero, List.getElem?_cons_succ, Option.bind, Option.getD]
          repeat (first | (with_reducible refine all_isV ?_) | (with_reducible refine all_isWC ?_; intro sx Ax kx cx hvx hwx) | (with_reducible refine all_isNR ?_; intro Ax kx cx hvx) | (with_reducible refine all_isNV ?_; intro Ax kx cx hvx) | (with_reducible refine all_isDV ?_; intro sx Ax kx cx hvx) | (with_reducible refine all_isWV ?_; intro sx Ax kx cx hvx) | (with_reducible refine all_isD ?_; intro sx Ax kx cx hvx hwx) | (with_reducible refine all_isRow ?_; intro gx' hbx) | (with_reducible refine all_isPtr ?_; intro gp' hbp hgp))
          go_simp
          exact ⟨Only.refl _ _, isV.self _ _⟩
        refine owes2_cons (fun wx hox => ?_) ?_
        · skip
          have he := Lib.hid (HE.out.step hox)
          have htx := Lib.hid (hT.out.keep he.out.only)
          obtain ⟨i0, i1, i2, -, -, -⟩ := DB.cells he 3 rfl
          obtain ⟨j0, j1, j2, -, -, -⟩ := DB.cells he 2 rfl
          obtain ⟨k0, k1, k2, -, -, -⟩ := DB.cells he 1 rfl
          have ivx := DB.iv he 3 rfl
          have ivy := DB.iv he 2 rfl
          have ivz := DB.iv he 1 rfl
          clear he
          refine withs_plain rfl ?_
          simp only [withs, List.getElem?_cons_zero, List.getElem?_cons_succ, Option.bind, Option.getD]
          repeat (first | (with_reducible refine all_isV ?_) | (with_reducible refine all_isWC ?_; intro sx Ax kx cx hvx hwx) | (with_reducible refine all_isNR ?_; intro Ax kx cx hvx) | (with_reducible refine all_isNV ?_; intro Ax kx cx hvx) | (with_reducible refine all_isDV ?_; intro sx Ax kx cx hvx) | (with_reducible refine all_isWV ?_; intro sx Ax kx cx hvx) | (with_reducible refine all_isD ?_; intro sx Ax kx cx hvx hwx) | (with_reducible refine all_isRow ?_; intro gx' hbx) | (with_reducible refine all_isPtr ?_; intro gp' hbp hgp))
          go_simp
          (with_reducible exact grow_d (mul_d (DV.of (by assumption)) (DV.of (by assumption)) BX BY (by omega) htx))
        refine owes2_cons (fun wx hox => ?_) ?_
        · skip
          have he := Lib.hid (HE.out.step hox)
          have htx := Lib.hid (hT.out.keep he.out.only)
          obtain ⟨i0, i1, i2, -, -, -⟩ := DB.cells he 3 rfl
          obtain ⟨j0, j1, j2, -, -, -⟩ := DB.cells he 2 rfl
          obtain ⟨k0, k1, k2, -, -, -⟩ := DB.cells he 1 rfl
          have ivx := DB.iv he 3 rfl
          have ivy := DB.iv he 2 rfl
          have ivz := DB.iv he 1 rfl
          clear he
          refine withs_plain rfl ?_
          simp only [withs, List.getElem?_cons_zero, List.getElem?_cons_succ, Option.bind, Option.getD]
          repeat (first | (with_reducible refine all_isV ?_) | (with_reducible refine all_isWC ?_; intro sx Ax kx cx hvx hwx) | (with_reducible refine all_isNR ?_; intro Ax kx cx hvx) | (with_reducible refine all_isNV ?_; intro Ax kx cx hvx) | (with_reducible refine all_isDV ?_; intro sx Ax kx cx hvx) | (with_reducible refine all_isWV ?_; intro sx Ax kx cx hvx) | (with_reducible refine all_isD ?_; intro sx Ax kx cx hvx hwx) | (with_reducible refine all_isRow ?_; intro gx' hbx) | (with_reducible refine all_isPtr ?_; intro gp' hbp hgp))
          go_simp
          exact ⟨Only.refl _ _, isV.self _ _⟩
        refine owes2_cons (fun wx hox => ?_) ?_
        · skip
          have he := Lib.hid (HE.out.step hox)
          have htx := Lib.hid (hT.out.keep he.out.only)
          obtain ⟨i0, i1, i2, -, -, -⟩ := DB.cells he 3 rfl
          obtain ⟨j0, j1, j2, -, -, -⟩ := DB.cells he 2 rfl
          obtain ⟨k0, k1, k2, -, -, -⟩ := DB.cells he 1 rfl
          have ivx := DB.iv he 3 rfl
          have ivy := DB.iv he 2 rfl
          have ivz := DB.iv he 1 rfl
          clear he
          refine withs_plain rfl ?_
          simp only [withs, List.getElem?_cons_zero, List.getElem?_cons_succ, Option.bind, Option.getD]
          repeat (first | (with_reducible refine all_isV ?_) | (with_reducible refine all_isWC ?_; intro sx Ax kx cx hvx hwx) | (with_reducible refine all_isNR ?_; intro Ax kx cx hvx) | (with_reducible refine all_isNV ?_; intro Ax kx cx hvx) | (with_reducible refine all_isDV ?_; intro sx Ax kx cx hvx) | (with_reducible refine all_isWV ?_; intro sx Ax kx cx hvx) | (with_reducible refine all_isD ?_; intro sx Ax kx cx hvx hwx) | (with_reducible refine all_isRow ?_; intro gx' hbx) | (with_reducible refine all_isPtr ?_; intro gp' hbp hgp))
          go_simp
          exact ⟨Only.refl _ _, isV.self _ _⟩
        refine owes2_cons (fun wx hox => ?_) ?_
        · skip
          have he := Lib.hid (HE.out.step hox)
          have htx := Lib.hid (hT.out.keep he.out.only)
          obtain ⟨i0, i1, i2, -, -, -⟩ := DB.cells he 3 rfl
          obtain ⟨j0, j1, j2, -, -, -⟩ := DB.cells he 2 rfl
          obtain ⟨k0, k1, k2, -, -, -⟩ := DB.cells he 1 rfl
          have ivx := DB.iv he 3 rfl
          have ivy := DB.iv he 2 rfl
          have ivz := DB.iv he 1 rfl
          clear he
          refine withs_plain rfl ?_
          simp only [withs, List.getElem?_cons_zero, List.getElem?_cons_succ, Option.bind, Option.getD]
          repeat (first | (with_reducible refine all_isV ?_) | (with_reducible refine all_isWC ?_; intro sx Ax kx cx hvx hwx) | (with_reducible refine all_isNR ?_; intro Ax kx cx hvx) | (with_reducible refine all_isNV ?_; intro Ax kx cx hvx) | (with_reducible refine all_isDV ?_; intro sx Ax kx cx hvx) | (with_reducible refine all_isWV ?_; intro sx Ax kx cx hvx) | (with_reducible refine all_isD ?_; intro sx Ax kx cx hvx hwx) | (with_reducible refine all_isRow ?_; intro gx' hbx) | (with_reducible refine all_isPtr ?_; intro gp' hbp hgp))
          go_simp
          (with_reducible exact grow_d (mul_d (DV.of (by assumption)) (DV.of (by assumption)) BX BZ (by omega) htx))
        refine owes2_cons (fun wx hox => ?_) ?_
        · skip
          have he := Lib.hid (HE.out.step hox)
          have htx := Lib.hid (hT.out.keep he.out.only)
          obtain ⟨i0, i1, i2, -, -, -⟩ := DB.cells he 3 rfl
          obtain ⟨j0, j1, j2, -, -, -⟩ := DB.cells he 2 rfl
          obtain ⟨k0, k1, k2, -, -, -⟩ := DB.cells he 1 rfl
          have ivx := DB.iv he 3 rfl
          have ivy := DB.iv he 2 rfl
          have ivz := DB.iv he 1 rfl
          clear he
          refine withs_plain rfl ?_
          simp only [withs, List.getElem?_cons_zero, List.getElem?_cons_succ, Option.bind, Option.getD]
          repeat (first | (with_reducible refine all_isV ?_) | (with_reducible refine all_isWC ?_; intro sx Ax kx cx hvx hwx) | (with_reducible refine all_isNR ?_; intro Ax kx cx hvx) | (with_reducible refine all_isNV ?_; intro Ax kx cx hvx) | (with_reducible refine all_isDV ?_; intro sx Ax kx cx hvx) | (with_reducible refine all_isWV ?_; intro sx Ax kx cx hvx) | (with_reducible refine all_isD ?_; intro sx Ax kx cx hvx hwx) | (with_reducible refine all_isRow ?_; intro gx' hbx) | (with_reducible refine all_isPtr ?_; intro gp' hbp hgp))
          go_simp
          (with_reducible exact grow_d (addV_d v HV.out (DV.of (by assumption)) (DV.of (by assumption)) BXY BXZ (by omega) htx))
        refine owes2_cons (fun wx hox => ?_) ?_
        · skip
          have he := Lib.hid (HE.out.step hox)
          have htx := Lib.hid (hT.out.keep he.out.only)
          obtain ⟨i0, i1, i2, -, -, -⟩ := DB.cells he 3 rfl
          obtain ⟨j0, j1, j2, -, -, -⟩ := DB.cells he 2 rfl
          obtain ⟨k0, k1, k2, -, -, -⟩ := DB.cells he 1 rfl
          have ivx := DB.iv he 3 rfl
          have ivy := DB.iv he 2 rfl
          have ivz := DB.iv he 1 rfl
          clear he
          refine withs_plain rfl ?_
          simp only [withs, List.getElem?_cons_zero, List.getElem?_cons_succ, Option.bind, Option.getD]
          repeat (first | (with_reducible refine all_isV ?_) | (with_reducible refine all_isWC ?_; intro sx Ax kx cx hvx hwx) | (with_reducible refine all_isNR ?_; intro Ax kx cx hvx) | (with_reducible refine all_isNV ?_; intro Ax kx cx hvx) | (with_reducible refine all_isDV ?_; intro sx Ax kx cx hvx) | (with_reducible refine all_isWV ?_; intro sx Ax kx cx hvx) | (with_reducible refine all_isD ?_; intro sx Ax kx cx hvx hwx) | (with_reducible refine all_isRow ?_; intro gx' hbx) | (with_reducible refine all_isPtr ?_; intro gp' hbp hgp))
          go_simp
          (exact isPtr.new hox _ _)
        exact owes2_nil
      case he =>
        simp only [List.drop_succ_cons, List.drop_zero]
        intro wx hox
        refine withs_of (by simp only [List.length, List.range, List.range.loop]; exact rfl) ?_
        simp only [withs, List.getElem?_cons_zero, List.getElem?_cons_succ, Option.bind, Option.getD]
        with_reducible refine all_isV ?_
        with_reducible refine all_isV ?_
        with_reducible refine all_isD ?_
        intro s2 A2 k2 c2 hv2 hw2
        with_reducible refine all_isV ?_
        with_reducible refine all_isV ?_
        with_reducible refine all_isD ?_
        intro s5 A5 k5 c5 hv5 hw5
        with_reducible refine all_isD ?_
        intro s6 A6 k6 c6 hv6 hw6
        with_reducible refine all_isPtr ?_
        intro g7 hb7 hg7
        go_simp
        have bl := hb7.out
        have q0 := bl.cell 0
        have q1 := bl.cell 1
        have q2 := bl.cell 2
        have f0 := bl.frozen 0
        have f1 := bl.frozen 1
        have f2 := bl.frozen 2
        simp only [List.getElem?_cons_zero, List.getElem?_cons_succ] at q0 q1 q2
        have he1 := (HE.out.step hox).adopt bl ⟨_, _, _, rfl⟩ (noLimb3 _ _ _ _ _) (Nat.le_trans HE.out.only.size hg7.out) (fun i y h hc => by
          have h1 := (HE.out.all i y h).1.lt
          have h2 := hg7.out
          omega) hv6.out
        replace HE := Lib.hid he1
        clear he1 bl hb7 hv6 hox
        go_upto_region 6 with fail
        clear q0 q1 q2 f0 f1 f2
        generalize ((wx.setCell _ _).setCell _ _).setCell _ _ = wz at *
        clear HU HV BXY BXZ BYZ BX1
        apply wp_region_typed2 (by kernel_rfl) [isV _, isV _, isV _, isV _, isV _, isV _, isV _, isD (dAdd x y), isV _, isV _, isD (dAdd y x), isV _, isV _, isV _, isV _, isV _, isV _, isD (dAdd x y), isV _, isD (dSub (dAdd x y) y), isV _, isV _, isV _, isV _, isV _, isV _, isV _, isD (dSub x x), isV _, isV _, isV _, isV _, isV _, isV _, isD (dMul x y), isV _, isV _, isV _, isV _, isV _, isV _, isV _, isV _, isV _, isV _, isV _, isV _, isV _, isV _, isV _, isV _, isV _, isV _, isV _, isV _, isV _, isD (dSub x y), isV _, isV _, isV _, isV _, isV _, isV _, isV _] [[], [], [0, 1], [2], [3], [4], [4], [4, 5, 6], [4], [4], [4, 8, 9], [4, 7, 10], [4, 11], [4, 12], [13], [14], [14], [14, 15, 16], [14], [14, 17, 18], [14], [14, 19, 20], [14, 21], [14, 22], [23], [24], [24], [24, 25, 26], [24, 27], [24, 28], [24, 29], [30], [31], [31], [31, 32, 33], [31, 34], [31], [31, 36], [31], [31, 38], [31, 37, 39], [31, 35, 40], [31, 41], [42], [43], [43], [43, 44, 45], [43], [43], [43, 47, 48], [43, 49], [43, 46, 50], [43, 51], [52], [53], [53], [53, 54, 55], [53, 56], [53], [53], [53, 58, 59], [53, 57, 60], [53, 61], [62]] (by kernel_rfl) (by kernel_rfl)
        case ho =>
          refine owes2_cons (fun wx hox => ?_) ?_
          · skip
            have he := Lib.hid (HE.out.step hox)
            have htx := Lib.hid (hT.out.keep he.out.only)
            obtain ⟨i0, i1, i2, -, -, -⟩ := DB.cells he 4 rfl
            obtain ⟨j0, j1, j2, -, -, -⟩ := DB.cells he 3 rfl
            obtain ⟨l0, l1, l2, -, -, -⟩ := DB.cells he 1 rfl
            obtain ⟨m0, m1, m2, -, -, -⟩ := DB.cells he 0 rfl
            have ivx := DB.iv he 4 rfl
            have ivy := DB.iv he 3 rfl
            have ivu := DB.iv he 1 rfl
            have ivv := DB.iv he 0 rfl
            clear he
            refine withs_plain rfl ?_
            simp only [withs, List.getElem?_cons_zero, List.getElem?_cons_succ, Option.bind, Option.getD]
            repeat (first | (with_reducible refine all_isV ?_) | (with_reducible refine all_isWC ?_; intro sx Ax kx cx hvx hwx) | (with_reducible refine all_isNR ?_; intro Ax kx cx hvx) | (with_reducible refine all_isNV ?_; intro Ax kx cx hvx) | (with_reducible refine all_isDV ?_; intro sx Ax kx cx hvx) | (with_reducible refine all_isWV ?_; intro sx Ax kx cx hvx) | (with_reducible refine all_isD ?_; intro sx Ax kx cx hvx hwx) | (with_reducible refine all_isRow ?_; intro gx' hbx) | (with_reducible refine all_isPtr ?_; intro gp' hbp hgp))
            go_simp
            exact ⟨Only.refl _ _, isV.self _ _⟩
          refine owes2_cons (fun wx hox => ?_) ?_
          · skip
            have he := Lib.hid (HE.out.step hox)
            have htx := Lib.hid (hT.out.keep he.out.only)
            obtain ⟨i0, i1, i2, -, -, -⟩ := DB.cells he 4 rfl
            obtain ⟨j0, j1, j2, -, -, -⟩ := DB.cells he 3 rfl
            obtain ⟨l0, l1, l2, -, -, -⟩ := DB.cells he 1 rfl
            obtain ⟨m0, m1, m2, -, -, -⟩ := DB.cells he 0 rfl
            have ivx := DB.iv he 4 rfl
            have ivy := DB.iv he 3 rfl
            have ivu := DB.iv he 1 rfl
            have ivv := DB.iv he 0 rfl
            clear he
            refine withs_plain rfl ?_
            simp only [withs, List.getElem?_cons_zero, List.getElem?_cons_succ, Option.bind, Option.getD]
            repeat (first | (with_reducible refine all_isV ?_) | (with_reducible refine all_isWC ?_; intro sx Ax kx cx hvx hwx) | (with_reducible refine all_isNR ?_; intro Ax kx cx hvx) | (with_reducible refine all_isNV ?_; intro Ax kx cx hvx) | (with_reducible refine all_isDV ?_; intro sx Ax kx cx hvx) | (with_reducible refine all_isWV ?_; intro sx Ax kx cx hvx) | (with_reducible refine all_isD ?_; intro sx Ax kx cx hvx hwx) | (with_reducible refine all_isRow ?_; intro gx' hbx) | (with_reducible refine all_isPtr ?_; intro gp' hbp hgp))
            go_simp
            exact ⟨Only.refl _ _, isV.self _ _⟩
          refine owes2_cons (fun wx hox => ?_) ?_
          · skip
            have he := Lib.hid (HE.out.step hox)
            have htx := Lib.hid (hT.out.keep he.out.only)
            obtain ⟨i0, i1, i2, -, -, -⟩ := DB.cells he 4 rfl
            obtain ⟨j0, j1, j2, -, -, -⟩ := DB.cells he 3 rfl
            obtain ⟨l0, l1, l2, -, -, -⟩ := DB.cells he 1 rfl
            obtain ⟨m0, m1, m2, -, -, -⟩ := DB.cells he 0 rfl
            have ivx := DB.iv he 4 rfl
            have ivy := DB.iv he 3 rfl
            have ivu := DB.iv he 1 rfl
            have ivv := DB.iv he 0 rfl
            clear he
            refine withs_plain rfl ?_
            simp only [withs, List.getElem?_cons_zero, List.getElem?_cons_succ, Option.bind, Option.getD]
            repeat (first | (with_reducible refine all_isV ?_) | (with_reducible refine all_isWC ?_; intro sx Ax kx cx hvx hwx) | (with_reducible refine all_isNR ?_; intro Ax kx cx hvx) | (with_reducible refine all_isNV ?_; intro Ax kx cx hvx) | (with_reducible refine all_isDV ?_; intro sx Ax kx cx hvx) | (with_reducible refine all_isWV ?_; intro sx Ax kx cx hvx) | (with_reducible refine all_isD ?_; intro sx Ax kx cx hvx hwx) | (with_reducible refine all_isRow ?_; intro gx' hbx) | (with_reducible refine all_isPtr ?_; intro gp' hbp hgp))
            go_simp
            (with_reducible exact grow_of (cmpV_d (x := u) (y := v) 0 (DV.of (by assumption)) (DV.of (by assumption)) BU BV (by omega) HUV.out))
          refine owes2_cons (fun wx hox => ?_) ?_
          · skip
            skip
            refine withs_plain rfl ?_
            simp only [withs, List.getElem?_cons_zero, List.getElem?_cons_succ, Option.bind, Option.getD]
            repeat (first | (with_reducible refine all_isV ?_) | (with_reducible refine all_isWC ?_; intro sx Ax kx cx hvx hwx) | (with_reducible refine all_isNR ?_; intro Ax kx cx hvx) | (with_reducible refine all_isNV ?_; intro Ax kx cx hvx) | (with_reducible refine all_isDV ?_; intro sx Ax kx cx hvx) | (with_reducible refine all_isWV ?_; intro sx Ax kx cx hvx) | (with_reducible refine all_isD ?_; intro sx Ax kx cx hvx hwx) | (with_reducible refine all_isRow ?_; intro gx' hbx) | (with_reducible refine all_isPtr ?_; intro gp' hbp hgp))
            go_simp
            exact ⟨Only.refl _ _, isV.self _ _⟩
          refine owes2_cons (fun wx hox => ?_) ?_
          · skip
            skip
            refine withs_plain rfl ?_
            simp only [withs, List.getElem?_cons_zero, List.getElem?_cons_succ, Option.bind, Option.getD]
            repeat (first | (with_reducible refine all_isV ?_) | (with_reducible refine all_isWC ?_; intro sx Ax kx cx hvx hwx) | (with_reducible refine all_isNR ?_; intro Ax kx cx hvx) | (with_reducible refine all_isNV ?_; intro Ax kx cx hvx) | (with_reducible refine all_isDV ?_; intro sx Ax kx cx hvx) | (with_reducible refine all_isWV ?_; intro sx Ax kx cx hvx) | (with_reducible refine all_isD ?_; intro sx Ax kx cx hvx hwx) | (with_reducible refine all_isRow ?_; intro gx' hbx) | (with_reducible refine all_isPtr ?_; intro gp' hbp hgp))
            go_simp
            exact ⟨Only.refl _ _, isV.self _ _⟩
          refine owes2_cons (fun wx hox => ?_) ?_
          · skip
            have he := Lib.hid (HE.out.step hox)
            have htx := Lib.hid (hT.out.keep he.out.only)
            obtain ⟨i0, i1, i2, -, -, -⟩ := DB.cells he 4 rfl
            obtain ⟨j0, j1, j2, -, -, -⟩ := DB.cells he 3 rfl
            obtain ⟨l0, l1, l2, -, -, -⟩ := DB.cells he 1 rfl
            obtain ⟨m0, m1, m2, -, -, -⟩ := DB.cells he 0 rfl
            have ivx := DB.iv he 4 rfl
            have ivy := DB.iv he 3 rfl
            have ivu := DB.iv he 1 rfl
            have ivv := DB.iv he 0 rfl
            clear he
            refine withs_guard rfl rfl ?_
            simp only [withs, List.getElem?_cons_zero, List.getElem?_cons_succ, Option.bind, Option.getD]
            repeat (first | (with_reducible refine all_isV ?_) | (with_reducible refine all_isWC ?_; intro sx Ax kx cx hvx hwx) | (with_reducible refine all_isNR ?_; intro Ax kx cx hvx) | (with_reducible refine all_isNV ?_; intro Ax kx cx hvx) | (with_reducible refine all_isDV ?_; intro sx Ax kx cx hvx) | (with_reducible refine all_isWV ?_; intro sx Ax kx cx hvx) | (with_reducible refine all_isD ?_; intro sx Ax kx cx hvx hwx) | (with_reducible refine all_isRow ?_; intro gx' hbx) | (with_reducible refine all_isPtr ?_; intro gp' hbp hgp))
            refine ⟨by kernel_rfl, ?_⟩
            go_simp
            exact ⟨Only.refl _ _, isV.self _ _⟩
          refine owes2_cons (fun wx hox => ?_) ?_
          · skip
            have he := Lib.hid (HE.out.step hox)
            have htx := Lib.hid (hT.out.keep he.out.only)
            obtain ⟨i0, i1, i2, -, -, -⟩ := DB.cells he 4 rfl
            obtain ⟨j0, j1, j2, -, -, -⟩ := DB.cells he 3 rfl
            obtain ⟨l0, l1, l2, -, -, -⟩ := DB.cells he 1 rfl
            obtain ⟨m0, m1, m2, -, -, -⟩ := DB.cells he 0 rfl
            have ivx := DB.iv he 4 rfl
            have ivy := DB.iv he 3 rfl
            have ivu := DB.iv he 1 rfl
            have ivv := DB.iv he 0 rfl
            clear he
            refine withs_guard rfl rfl ?_
            simp only [withs, List.getElem?_cons_zero, List.getElem?_cons_succ, Option.bind, Option.getD]
            repeat (first | (with_reducible refine all_isV ?_) | (with_reducible refine all_isWC ?_; intro sx Ax kx cx hvx hwx) | (with_reducible refine all_isNR ?_; intro Ax kx cx hvx) | (with_reducible refine all_isNV ?_; intro Ax kx cx hvx) | (with_reducible refine all_isDV ?_; intro sx Ax kx cx hvx) | (with_reducible refine all_isWV ?_; intro sx Ax kx cx hvx) | (with_reducible refine all_isD ?_; intro sx Ax kx cx hvx hwx) | (with_reducible refine all_isRow ?_; intro gx' hbx) | (with_reducible refine all_isPtr ?_; intro gp' hbp hgp))
            refine ⟨by kernel_rfl, ?_⟩
            go_simp
            exact ⟨Only.refl _ _, isV.self _ _⟩
          refine owes2_cons (fun wx hox => ?_) ?_
          · skip
            have he := Lib.hid (HE.out.step hox)
            have htx := Lib.hid (hT.out.keep he.out.only)
            obtain ⟨i0, i1, i2, -, -, -⟩ := DB.cells he 4 rfl
            obtain ⟨j0, j1, j2, -, -, -⟩ := DB.cells he 3 rfl
            obtain ⟨l0, l1, l2, -, -, -⟩ := DB.cells he 1 rfl
            obtain ⟨m0, m1, m2, -, -, -⟩ := DB.cells he 0 rfl
            have ivx := DB.iv he 4 rfl
            have ivy := DB.iv he 3 rfl
            have ivu := DB.iv he 1 rfl
            have ivv := DB.iv he 0 rfl
            clear he
            refine withs_guard rfl rfl ?_
            simp only [withs, List.getElem?_cons_zero, List.getElem?_cons_succ, Option.bind, Option.getD]
            repeat (first | (with_reducible refine all_isV ?_) | (with_reducible refine all_isWC ?_; intro sx Ax kx cx hvx hwx) | (with_reducible refine all_isNR ?_; intro Ax kx cx hvx) | (with_reducible refine all_isNV ?_; intro Ax kx cx hvx) | (with_reducible refine all_isDV ?_; intro sx Ax kx cx hvx) | (with_reducible refine all_isWV ?_; intro sx Ax kx cx hvx) | (with_reducible refine all_isD ?_; intro sx Ax kx cx hvx hwx) | (with_reducible refine all_isRow ?_; intro gx' hbx) | (with_reducible refine all_isPtr ?_; intro gp' hbp hgp))
            refine ⟨by kernel_rfl, ?_⟩
            go_simp
            (with_reducible exact grow_d (add_d (DV.of (by assumption)) (DV.of (by assumption)) BX BY (by omega) htx))
          refine owes2_cons (fun wx hox => ?_) ?_
          · skip
            have he := Lib.hid (HE.out.step hox)
            have htx := Lib.hid (hT.out.keep he.out.only)
            obtain ⟨i0, i1, i2, -, -, -⟩ := DB.cells he 4 rfl
            obtain ⟨j0, j1, j2, -, -, -⟩ := DB.cells he 3 rfl
            obtain ⟨l0, l1, l2, -, -, -⟩ := DB.cells he 1 rfl
            obtain ⟨m0, m1, m2, -, -, -⟩ := DB.cells he 0 rfl
            have ivx := DB.iv he 4 rfl
            have ivy := DB.iv he 3 rfl
            have ivu := DB.iv he 1 rfl
            have ivv := DB.iv he 0 rfl
            clear he
            refine withs_guard rfl rfl ?_
            simp only [withs, List.getElem?_cons_zero, List.getElem?_cons_succ, Option.bind, Option.getD]
            repeat (first | (with_reducible refine all_isV ?_) | (with_reducible refine all_isWC ?_; intro sx Ax kx cx hvx hwx) | (with_reducible refine all_isNR ?_; intro Ax kx cx hvx) | (with_reducible refine all_isNV ?_; intro Ax kx cx hvx) | (with_reducible refine all_isDV ?_; intro sx Ax kx cx hvx) | (with_reducible refine all_isWV ?_; intro sx Ax kx cx hvx) | (with_reducible refine all_isD ?_; intro sx Ax kx cx hvx hwx) | (with_reducible refine all_isRow ?_; intro gx' hbx) | (with_reducible refine all_isPtr ?_; intro gp' hbp hgp))
            refine ⟨by kernel_rfl, ?_⟩
            go_simp
            exact ⟨Only.refl _ _, isV.self _ _⟩
          refine owes2_cons (fun wx hox => ?_) ?_
          · skip
            have he := Lib.hid (HE.out.step hox)
            have htx := Lib.hid (hT.out.keep he.out.only)
            obtain ⟨i0, i1, i2, -, -, -⟩ := DB.cells he 4 rfl
            obtain ⟨j0, j1, j2, -, -, -⟩ := DB.cells he 3 rfl
            obtain ⟨l0, l1, l2, -, -, -⟩ := DB.cells he 1 rfl
            obtain ⟨m0, m1, m2, -, -, -⟩ := DB.cells he 0 rfl
            have ivx := DB.iv he 4 rfl
            have ivy := DB.iv he 3 rfl
            have ivu := DB.iv he 1 rfl
            have ivv := DB.iv he 0 rfl
            clear he
            refine withs_guard rfl rfl ?_
            simp only [withs, List.getElem?_cons_zero, List.getElem?_cons_succ, Option.bind, Option.getD]
            repeat (first | (with_reducible refine all_isV ?_) | (with_reducible refine all_isWC ?_; intro sx Ax kx cx hvx hwx) | (with_reducible refine all_isNR ?_; intro Ax kx cx hvx) | (with_reducible refine all_isNV ?_; intro Ax kx cx hvx) | (with_reducible refine all_isDV ?_; intro sx Ax kx cx hvx) | (with_reducible refine all_isWV ?_; intro sx Ax kx cx hvx) | (with_reducible refine all_isD ?_; intro sx Ax kx cx hvx hwx) | (with_reducible refine all_isRow ?_; intro gx' hbx) | (with_reducible refine all_isPtr ?_; intro gp' hbp hgp))
            refine ⟨by kernel_rfl, ?_⟩
            go_simp
            exact ⟨Only.refl _ _, isV.self _ _⟩
          refine owes2_cons (fun wx hox => ?_) ?_
          · skip
            have he := Lib.hid (HE.out.step hox)
            have htx := Lib.hid (hT.out.keep he.out.only)
            obtain ⟨i0, i1, i2, -, -, -⟩ := DB.cells he 4 rfl
            obtain ⟨j0, j1, j2, -, -, -⟩ := DB.cells he 3 rfl
            obtain ⟨l0, l1, l2, -, -, -⟩ := DB.cells he 1 rfl
            obtain ⟨m0, m1, m2, -, -, -⟩ := DB.cells he 0 rfl
            have ivx := DB.iv he 4 rfl
            have ivy := DB.iv he 3 rfl
            have ivu := DB.iv he 1 rfl
            have ivv := DB.iv he 0 rfl
            clear he
            refine withs_guard rfl rfl ?_
            simp only [withs, List.getElem?_cons_zero, List.getElem?_cons_succ, Option.bind, Option.getD]
            repeat (first | (with_reducible refine all_isV ?_) | (with_reducible refine all_isWC ?_; intro sx Ax kx cx hvx hwx) | (with_reducible refine all_isNR ?_; intro Ax kx cx hvx) | (with_reducible refine all_isNV ?_; intro Ax kx cx hvx) | (with_reducible refine all_isDV ?_; intro sx Ax kx cx hvx) | (with_reducible refine all_isWV ?_; intro sx Ax kx cx hvx) | (with_reducible refine all_isD ?_; intro sx Ax kx cx hvx hwx) | (with_reducible refine all_isRow ?_; intro gx' hbx) | (with_reducible refine all_isPtr ?_; intro gp' hbp hgp))
            refine ⟨by kernel_rfl, ?_⟩
            go_simp
            (with_reducible exact grow_d (add_d (DV.of (by assumption)) (DV.of (by assumption)) BY BX (by omega) htx))
          refine owes2_cons (fun wx hox => ?_) ?_
          · skip
            have he := Lib.hid (HE.out.step hox)
            have htx := Lib.hid (hT.out.keep he.out.only)
            obtain ⟨i0, i1, i2, -, -, -⟩ := DB.cells he 4 rfl
            obtain ⟨j0, j1, j2, -, -, -⟩ := DB.cells he 3 rfl
            obtain ⟨l0, l1, l2, -, -, -⟩ := DB.cells he 1 rfl
            obtain ⟨m0, m1, m2, -, -, -⟩ := DB.cells he 0 rfl
            have ivx := DB.iv he 4 rfl
            have ivy := DB.iv he 3 rfl
            have ivu := DB.iv he 1 rfl
            have ivv := DB.iv he 0 rfl
            clear he
            refine withs_guard rfl rfl ?_
            simp only [withs, List.getElem?_cons_zero, List.getElem?_cons_succ, Option.bind, Option.getD]
            repeat (first | (with_reducible refine all_isV ?_) | (with_reducible refine all_isWC ?_; intro sx Ax kx cx hvx hwx) | (with_reducible refine all_isNR ?_; intro Ax kx cx hvx) | (with_reducible refine all_isNV ?_; intro Ax kx cx hvx) | (with_reducible refine all_isDV ?_; intro sx Ax kx cx hvx) | (with_reducible refine all_isWV ?_; intro sx Ax kx cx hvx) | (with_reducible refine all_isD ?_; intro sx Ax kx cx hvx hwx) | (with_reducible refine all_isRow ?_; intro gx' hbx) | (with_reducible refine all_isPtr ?_; intro gp' hbp hgp))
            refine ⟨by kernel_rfl, ?_⟩
            go_simp
            (with_reducible exact grow_of (cmpV_d (x := dAdd x y) (y := dAdd y x) 0 (DV.of (by assumption)) (DV.of (by assumption)) BS BS' (by omega) HAB.out))
          refine owes2_cons (fun wx hox => ?_) ?_
          · skip
            skip
            refine withs_guard rfl rfl ?_
            simp only [withs, List.getElem?_cons_zero, List.getElem?_cons_succ, Option.bind, Option.getD]
            repeat (first | (with_reducible refine all_isV ?_) | (with_reducible refine all_isWC ?_; intro sx Ax kx cx hvx hwx) | (with_reducible refine all_isNR ?_; intro Ax kx cx hvx) | (with_reducible refine all_isNV ?_; intro Ax kx cx hvx) | (with_reducible refine all_isDV ?_; intro sx Ax kx cx hvx) | (with_reducible refine all_isWV ?_; intro sx Ax kx cx hvx) | (with_reducible refine all_isD ?_; intro sx Ax kx cx hvx hwx) | (with_reducible refine all_isRow ?_; intro gx' hbx) | (with_reducible refine all_isPtr ?_; intro gp' hbp hgp))
            refine ⟨by kernel_rfl, ?_⟩
            go_simp
            exact ⟨Only.refl _ _, isV.self _ _⟩
          refine owes2_cons (fun wx hox => ?_) ?_
          · skip
            skip
            refine withs_plain rfl ?_
            simp only [withs, List.getElem?_cons_zero, List.getElem?_cons_succ, Option.bind, Option.getD]
            repeat (first | (with_reducible refine all_isV ?_) | (with_reducible refine all_isWC ?_; intro sx Ax kx cx hvx hwx) | (with_reducible refine all_isNR ?_; intro Ax kx cx hvx) | (with_reducible refine all_isNV ?_; intro Ax kx cx hvx) | (with_reducible refine all_isDV ?_; intro sx Ax kx cx hvx) | (with_reducible refine all_isWV ?_; intro sx Ax kx cx hvx) | (with_reducible refine all_isD ?_; intro sx Ax kx cx hvx hwx) | (with_reducible refine all_isRow ?_; intro gx' hbx) | (with_reducible refine all_isPtr ?_; intro gp' hbp hgp))
            go_simp
            exact ⟨Only.refl _ _, isV.self _ _⟩
          refine owes2_cons (fun wx hox => ?_) ?_
          · skip
            skip
            refine withs_plain rfl ?_
            simp only [withs, List.getElem?_cons_zero, List.getElem?_cons_succ, Option.bind, Option.getD]
            repeat (first | (with_reducible refine all_isV ?_) | (with_reducible refine all_isWC ?_; intro sx Ax kx cx hvx hwx) | (with_reducible refine all_isNR ?_; intro Ax kx cx hvx) | (with_reducible refine all_isNV ?_; intro Ax kx cx hvx) | (with_reducible refine all_isDV ?_; intro sx Ax kx cx hvx) | (with_reducible refine all_isWV ?_; intro sx Ax kx cx hvx) | (with_reducible refine all_isD ?_; intro sx Ax kx cx hvx hwx) | (with_reducible refine all_isRow ?_; intro gx' hbx) | (with_reducible refine all_isPtr ?_; intro gp' hbp hgp))
            go_simp
            exact ⟨Only.refl _ _, isV.self _ _⟩
          refine owes2_cons (fun wx hox => ?_) ?_
          · skip
            have he := Lib.hid (HE.out.step hox)
            have htx := Lib.hid (hT.out.keep he.out.only)
            obtain ⟨i0, i1, i2, -, -, -⟩ := DB.cells he 4 rfl
            obtain ⟨j0, j1, j2, -, -, -⟩ := DB.cells he 3 rfl
            obtain ⟨l0, l1, l2, -, -, -⟩ := DB.cells he 1 rfl
            obtain ⟨m0, m1, m2, -, -, -⟩ := DB.cells he 0 rfl
            have ivx := DB.iv he 4 rfl
            have ivy := DB.iv he 3 rfl
            have ivu := DB.iv he 1 rfl
            have ivv := DB.iv he 0 rfl
            clear he
            refine withs_guard rfl rfl ?_
            simp only [withs, List.getElem?_cons_zero, List.getElem?_cons_succ, Option.bind, Option.getD]
            repeat (first | (with_reducible refine all_isV ?_) | (with_reducible refine all_isWC ?_; intro sx Ax kx cx hvx hwx) | (with_reducible refine all_isNR ?_; intro Ax kx cx hvx) | (with_reducible refine all_isNV ?_; intro Ax kx cx hvx) | (with_reducible refine all_isDV ?_; intro sx Ax kx cx hvx) | (with_reducible refine all_isWV ?_; intro sx Ax kx cx hvx) | (with_reducible refine all_isD ?_; intro sx Ax kx cx hvx hwx) | (with_reducible refine all_isRow ?_; intro gx' hbx) | (with_reducible refine all_isPtr ?_; intro gp' hbp hgp))
            refine ⟨by kernel_rfl, ?_⟩
            go_simp
            exact ⟨Only.refl _ _, isV.self _ _⟩
          refine owes2_cons (fun wx hox => ?_) ?_
          · skip
            have he := Lib.hid (HE.out.step hox)
            have htx := Lib.hid (hT.out.keep he.out.only)
            obtain ⟨i0, i1, i2, -, -, -⟩ := DB.cells he 4 rfl
            obtain ⟨j0, j1, j2, -, -, -⟩ := DB.cells he 3 rfl
            obtain ⟨l0, l1, l2, -, -, -⟩ := DB.cells he 1 rfl
            obtain ⟨m0, m1, m2, -, -, -⟩ := DB.cells he 0 rfl
            have ivx := DB.iv he 4 rfl
            have ivy := DB.iv he 3 rfl
            have ivu := DB.iv he 1 rfl
            have ivv := DB.iv he 0 rfl
            clear he
            refine withs_guard rfl rfl ?_
            simp only [withs, List.getElem?_cons_zero, List.getElem?_cons_succ, Option.bind, Option.getD]
            repeat (first | (with_reducible refine all_isV ?_) | (with_reducible refine all_isWC ?_; intro sx Ax kx cx hvx hwx) | (with_reducible refine all_isNR ?_; intro Ax kx cx hvx) | (with_reducible refine all_isNV ?_; intro Ax kx cx hvx) | (with_reducible refine all_isDV ?_; intro sx Ax kx cx hvx) | (with_reducible refine all_isWV ?_; intro sx Ax kx cx hvx) | (with_reducible refine all_isD ?_; intro sx Ax kx cx hvx hwx) | (with_reducible refine all_isRow ?_; intro gx' hbx) | (with_reducible refine all_isPtr ?_; intro gp' hbp hgp))
            refine ⟨by kernel_rfl, ?_⟩
            go_simp
            exact ⟨Only.refl _ _, isV.self _ _⟩
          refine owes2_cons (fun wx hox => ?_) ?_
          · skip
            have he := Lib.hid (HE.out.step hox)
            have htx := Lib.hid (hT.out.keep he.out.only)
            obtain ⟨i0, i1, i2, -, -, -⟩ := DB.cells he 4 rfl
            obtain ⟨j0, j1, j2, -, -, -⟩ := DB.cells he 3 rfl
            obtain ⟨l0, l1, l2, -, -, -⟩ := DB.cells he 1 rfl
            obtain ⟨m0, m1, m2, -, -, -⟩ := DB.cells he 0 rfl
            have ivx := DB.iv he 4 rfl
            have ivy := DB.iv he 3 rfl
            have ivu := DB.iv he 1 rfl
            have ivv := DB.iv he 0 rfl
            clear he
            refine withs_guard rfl rfl ?_
            simp only [withs, List.getElem?_cons_zero, List.getElem?_cons_succ, Option.bind, Option.getD]
            repeat (first | (with_reducible refine all_isV ?_) | (with_reducible refine all_isWC ?_; intro sx Ax kx cx hvx hwx) | (with_reducible refine all_isNR ?_; intro Ax kx cx hvx) | (with_reducible refine all_isNV ?_; intro Ax kx cx hvx) | (with_reducible refine all_isDV ?_; intro sx Ax kx cx hvx) | (with_reducible refine all_isWV ?_; intro sx Ax kx cx hvx) | (with_reducible refine all_isD ?_; intro sx Ax kx cx hvx hwx) | (with_reducible refine all_isRow ?_; intro gx' hbx) | (with_reducible refine all_isPtr ?_; intro gp' hbp hgp))
            refine ⟨by kernel_rfl, ?_⟩
            go_simp
            (with_reducible exact grow_d (add_d (DV.of (by assumption)) (DV.of (by assumption)) BX BY (by omega) htx))
          refine owes2_cons (fun wx hox => ?_) ?_
          · skip
            have he := Lib.hid (HE.out.step hox)
            have htx := Lib.hid (hT.out.keep he.out.only)
            obtain ⟨i0, i1, i2, -, -, -⟩ := DB.cells he 4 rfl
            obtain ⟨j0, j1, j2, -, -, -⟩ := DB.cells he 3 rfl
            obtain ⟨l0, l1, l2, -, -, -⟩ := DB.cells he 1 rfl
            obtain ⟨m0, m1, m2, -, -, -⟩ := DB.cells he 0 rfl
            have ivx := DB.iv he 4 rfl
            have ivy := DB.iv he 3 rfl
            have ivu := DB.iv he 1 rfl
            have ivv := DB.iv he 0 rfl
            clear he
            refine withs_guard rfl rfl ?_
            simp only [withs, List.getElem?_cons_zero, List.getElem?_cons_succ, Option.bind, Option.getD]
            repeat (first | (with_reducible refine all_isV ?_) | (with_reducible refine all_isWC ?_; intro sx Ax kx cx hvx hwx) | (with_reducible refine all_isNR ?_; intro Ax kx cx hvx) | (with_reducible refine all_isNV ?_; intro Ax kx cx hvx) | (with_reducible refine all_isDV ?_; intro sx Ax kx cx hvx) | (with_reducible refine all_isWV ?_; intro sx Ax kx cx hvx) | (with_reducible refine all_isD ?_; intro sx Ax kx cx hvx hwx) | (with_reducible refine all_isRow ?_; intro gx' hbx) | (with_reducible refine all_isPtr ?_; intro gp' hbp hgp))
            refine ⟨by kernel_rfl, ?_⟩
            go_simp
            exact ⟨Only.refl _ _, isV.self _ _⟩
          refine owes2_cons (fun wx hox => ?_) ?_
          · skip
            have he := Lib.hid (HE.out.step hox)
            have htx := Lib.hid (hT.out.keep he.out.only)
            obtain ⟨i0, i1, i2, -, -, -⟩ := DB.cells he 4 rfl
            obtain ⟨j0, j1, j2, -, -, -⟩ := DB.cells he 3 rfl
            obtain ⟨l0, l1, l2, -, -, -⟩ := DB.cells he 1 rfl
            obtain ⟨m0, m1, m2, -, -, -⟩ := DB.cells he 0 rfl
            have ivx := DB.iv he 4 rfl
            have ivy := DB.iv he 3 rfl
            have ivu := DB.iv he 1 rfl
            have ivv := DB.iv he 0 rfl
            clear he
            refine withs_guard rfl rfl ?_
            simp only [withs, List.getElem?_cons_zero, List.getElem?_cons_succ, Option.bind, Option.getD]
            repeat (first | (with_reducible refine all_isV ?_) | (with_reducible refine all_isWC ?_; intro sx Ax kx cx hvx hwx) | (with_reducible refine all_isNR ?_; intro Ax kx cx hvx) | (with_reducible refine all_isNV ?_; intro Ax kx cx hvx) | (with_reducible refine all_isDV ?_; intro sx Ax kx cx hvx) | (with_reducible refine all_isWV ?_; intro sx Ax kx cx hvx) | (with_reducible refine all_isD ?_; intro sx Ax kx cx hvx hwx) | (with_reducible refine all_isRow ?_; intro gx' hbx) | (with_reducible refine all_isPtr ?_; intro gp' hbp hgp))
            refine ⟨by kernel_rfl, ?_⟩
            go_simp
            (with_reducible exact grow_d (sub_d (DV.of (by assumption)) (DV.of (by assumption)) BS BY1 (by omega) htx))
          refine owes2_cons (fun wx hox => ?_) ?_
          · skip
            have he := Lib.hid (HE.out.step hox)
            have htx := Lib.hid (hT.out.keep he.out.only)
            obtain ⟨i0, i1, i2, -, -, -⟩ := DB.cells he 4 rfl
            obtain ⟨j0, j1, j2, -, -, -⟩ := DB.cells he 3 rfl
            obtain ⟨l0, l1, l2, -, -, -⟩ := DB.cells he 1 rfl
            obtain ⟨m0, m1, m2, -, -, -⟩ := DB.cells he 0 rfl
            have ivx := DB.iv he 4 rfl
            have ivy := DB.iv he 3 rfl
            have ivu := DB.iv he 1 rfl
            have ivv := DB.iv he 0 rfl
            clear he
            refine withs_guard rfl rfl ?_
            simp only [withs, List.getElem?_cons_zero, List.getElem?_cons_succ, Option.bind, Option.getD]
            repeat (first | (with_reducible refine all_isV ?_) | (with_reducible refine all_isWC ?_; intro sx Ax kx cx hvx hwx) | (with_reducible refine all_isNR ?_; intro Ax kx cx hvx) | (with_reducible refine all_isNV ?_; intro Ax kx cx hvx) | (with_reducible refine all_isDV ?_; intro sx Ax kx cx hvx) | (with_reducible refine all_isWV ?_; intro sx Ax kx cx hvx) | (with_reducible refine all_isD ?_; intro sx Ax kx cx hvx hwx) | (with_reducible refine all_isRow ?_; intro gx' hbx) | (with_reducible refine all_isPtr ?_; intro gp' hbp hgp))
            refine ⟨by kernel_rfl, ?_⟩
            go_simp
            exact ⟨Only.refl _ _, isV.self _ _⟩
          refine owes2_cons (fun wx hox => ?_) ?_
          · skip
            have he := Lib.hid (HE.out.step hox)
            have htx := Lib.hid (hT.out.keep he.out.only)
            obtain ⟨i0, i1, i2, -, -, -⟩ := DB.cells he 4 rfl
            obtain ⟨j0, j1, j2, -, -, -⟩ := DB.cells he 3 rfl
            obtain ⟨l0, l1, l2, -, -, -⟩ := DB.cells he 1 rfl
            obtain ⟨m0, m1, m2, -, -, -⟩ := DB.cells he 0 rfl
            have ivx := DB.iv he 4 rfl
            have ivy := DB.iv he 3 rfl
            have ivu := DB.iv he 1 rfl
            have ivv := DB.iv he 0 rfl
            clear he
            refine withs_guard rfl rfl ?_
            simp only [withs, List.getElem?_cons_zero, List.getElem?_cons_succ, Option.bind, Option.getD]
            repeat (first | (with_reducible refine all_isV ?_) | (with_reducible refine all_isWC ?_; intro sx Ax kx cx hvx hwx) | (with_reducible refine all_isNR ?_; intro Ax kx cx hvx) | (with_reducible refine all_isNV ?_; intro Ax kx cx hvx) | (with_reducible refine all_isDV ?_; intro sx Ax kx cx hvx) | (with_reducible refine all_isWV ?_; intro sx Ax kx cx hvx) | (with_reducible refine all_isD ?_; intro sx Ax kx cx hvx hwx) | (with_reducible refine all_isRow ?_; intro gx' hbx) | (with_reducible refine all_isPtr ?_; intro gp' hbp hgp))
            refine ⟨by kernel_rfl, ?_⟩
            go_simp
            (with_reducible exact grow_of (cmpV_d (x := dSub (dAdd x y) y) (y := x) 0 (DV.of (by assumption)) (DV.of (by assumption)) BSS BX2 (by omega) HSS.out))
          refine owes2_cons (fun wx hox => ?_) ?_
          · skip
            skip
            refine withs_guard rfl rfl ?_
            simp only [withs, List.getElem?_cons_zero, List.getElem?_cons_succ, Option.bind, Option.getD]
            repeat (first | (with_reducible refine all_isV ?_) | (with_reducible refine all_isWC ?_; intro sx Ax kx cx hvx hwx) | (with_reducible refine all_isNR ?_; intro Ax kx cx hvx) | (with_reducible refine all_isNV ?_; intro Ax kx cx hvx) | (with_reducible refine all_isDV ?_; intro sx Ax kx cx hvx) | (with_reducible refine all_isWV ?_; intro sx Ax kx cx hvx) | (with_reducible refine all_isD ?_; intro sx Ax kx cx hvx hwx) | (with_reducible refine all_isRow ?_; intro gx' hbx) | (with_reducible refine all_isPtr ?_; intro gp' hbp hgp))
            refine ⟨by kernel_rfl, ?_⟩
            go_simp
            exact ⟨Only.refl _ _, isV.self _ _⟩
          refine owes2_cons (fun wx hox => ?_) ?_
          · skip
            skip
            refine withs_plain rfl ?_
            simp only [withs, List.getElem?_cons_zero, List.getElem?_cons_succ, Option.bind, Option.getD]
            repeat (first | (with_reducible refine all_isV ?_) | (with_reducible refine all_isWC ?_; intro sx Ax kx cx hvx hwx) | (with_reducible refine all_isNR ?_; intro Ax kx cx hvx) | (with_reducible refine all_isNV ?_; intro Ax kx cx hvx) | (with_reducible refine all_isDV ?_; intro sx Ax kx cx hvx) | (with_reducible refine all_isWV ?_; intro sx Ax kx cx hvx) | (with_reducible refine all_isD ?_; intro sx Ax kx cx hvx hwx) | (with_reducible refine all_isRow ?_; intro gx' hbx) | (with_reducible refine all_isPtr ?_; intro gp' hbp hgp))
            go_simp
            exact ⟨Only.refl _ _, isV.self _ _⟩
          refine owes2_cons (fun wx hox => ?_) ?_
          · skip
            skip
            refine withs_plain rfl ?_
            simp only [withs, List.getElem?_cons_zero, List.getElem?_cons_succ, Option.bind, Option.getD]
            repeat (first | (with_reducible refine all_isV ?_) | (with_reducible refine all_isWC ?_; intro sx Ax kx cx hvx hwx) | (with_reducible refine all_isNR ?_; intro Ax kx cx hvx) | (with_reducible refine all_isNV ?_; intro Ax kx cx hvx) | (with_reducible refine all_isDV ?_; intro sx Ax kx cx hvx) | (with_reducible refine all_isWV ?_; intro sx Ax kx cx hvx) | (with_reducible refine all_isD ?_; intro sx Ax kx cx hvx hwx) | (with_reducible refine all_isRow ?_; intro gx' hbx) | (with_reducible refine all_isPtr ?_; intro gp' hbp hgp))
            go_simp
            exact ⟨Only.refl _ _, isV.self _ _⟩
          refine owes2_cons (fun wx hox => ?_) ?_
          · skip
            have he := Lib.hid (HE.out.step hox)
            have htx := Lib.hid (hT.out.keep he.out.only)
            obtain ⟨i0, i1, i2, -, -, -⟩ := DB.cells he 4 rfl
            obtain ⟨j0, j1, j2, -, -, -⟩ := DB.cells he 3 rfl
            obtain ⟨l0, l1, l2, -, -, -⟩ := DB.cells he 1 rfl
            obtain ⟨m0, m1, m2, -, -, -⟩ := DB.cells he 0 rfl
            have ivx := DB.iv he 4 rfl
            have ivy := DB.iv he 3 rfl
            have ivu := DB.iv he 1 rfl
            have ivv := DB.iv he 0 rfl
            clear he
            refine withs_guard rfl rfl ?_
            simp only [withs, List.getElem?_cons_zero, List.getElem?_cons_succ, Option.bind, Option.getD]
            repeat (first | (with_reducible refine all_isV ?_) | (with_reducible refine all_isWC ?_; intro sx Ax kx cx hvx hwx) | (with_reducible refine all_isNR ?_; intro Ax kx cx hvx) | (with_reducible refine all_isNV ?_; intro Ax kx cx hvx) | (with_reducible refine all_isDV ?_; intro sx Ax kx cx hvx) | (with_reducible refine all_isWV ?_; intro sx Ax kx cx hvx) | (with_reducible refine all_isD ?_; intro sx Ax kx cx hvx hwx) | (with_reducible refine all_isRow ?_; intro gx' hbx) | (with_reducible refine all_isPtr ?_; intro gp' hbp hgp))
            refine ⟨by kernel_rfl, ?_⟩
            go_simp
            exact ⟨Only.refl _ _, isV.self _ _⟩
          refine owes2_cons (fun wx hox => ?_) ?_
          · skip
            have he := Lib.hid (HE.out.step hox)
            have htx := Lib.hid (hT.out.keep he.out.only)
            obtain ⟨i0, i1, i2, -, -, -⟩ := DB.cells he 4 rfl
            obtain ⟨j0, j1, j2, -, -, -⟩ := DB.cells he 3 rfl
            obtain ⟨l0, l1, l2, -, -, -⟩ := DB.cells he 1 rfl
            obtain ⟨m0, m1, m2, -, -, -⟩ := DB.cells he 0 rfl
            have ivx := DB.iv he 4 rfl
            have ivy := DB.iv he 3 rfl
            have ivu := DB.iv he 1 rfl
            have ivv := DB.iv he 0 rfl
            clear he
            refine withs_guard rfl rfl ?_
            simp only [withs, List.getElem?_cons_zero, List.getElem?_cons_succ, Option.bind, Option.getD]
            repeat (first | (with_reducible refine all_isV ?_) | (with_reducible refine all_isWC ?_; intro sx Ax kx cx hvx hwx) | (with_reducible refine all_isNR ?_; intro Ax kx cx hvx) | (with_reducible refine all_isNV ?_; intro Ax kx cx hvx) | (with_reducible refine all_isDV ?_; intro sx Ax kx cx hvx) | (with_reducible refine all_isWV ?_; intro sx Ax kx cx hvx) | (with_reducible refine all_isD ?_; intro sx Ax kx cx hvx hwx) | (with_reducible refine all_isRow ?_; intro gx' hbx) | (with_reducible refine all_isPtr ?_; intro gp' hbp hgp))
            refine ⟨by kernel_rfl, ?_⟩
            go_simp
            exact ⟨Only.refl _ _, isV.self _ _⟩
          refine owes2_cons (fun wx hox => ?_) ?_
          · skip
            have he := Lib.hid (HE.out.step hox)
            have htx := Lib.hid (hT.out.keep he.out.only)
            obtain ⟨i0, i1, i2, -, -, -⟩ := DB.cells he 4 rfl
            obtain ⟨j0, j1, j2, -, -, -⟩ := DB.cells he 3 rfl
            obtain ⟨l0, l1, l2, -, -, -⟩ := DB.cells he 1 rfl
            obtain ⟨m0, m1, m2, -, -, -⟩ := DB.cells he 0 rfl
            have ivx := DB.iv he 4 rfl
            have ivy := DB.iv he 3 rfl
            have ivu := DB.iv he 1 rfl
            have ivv := DB.iv he 0 rfl
            clear he
            refine withs_guard rfl rfl ?_
            simp only [withs, List.getElem?_cons_zero, List.getElem?_cons_succ, Option.bind, Option.getD]
            repeat (first | (with_reducible refine all_isV ?_) | (with_reducible refine all_isWC ?_; intro sx Ax kx cx hvx hwx) | (with_reducible refine all_isNR ?_; intro Ax kx cx hvx) | (with_reducible refine all_isNV ?_; intro Ax kx cx hvx) | (with_reducible refine all_isDV ?_; intro sx Ax kx cx hvx) | (with_reducible refine all_isWV ?_; intro sx Ax kx cx hvx) | (with_reducible refine all_isD ?_; intro sx Ax kx cx hvx hwx) | (with_reducible refine all_isRow ?_; intro gx' hbx) | (with_reducible refine all_isPtr ?_; intro gp' hbp hgp))
            refine ⟨by kernel_rfl, ?_⟩
            go_simp
            (with_reducible exact grow_d (sub_d (DV.of (by assumption)) (DV.of (by assumption)) BX BX (by omega) htx))
          refine owes2_cons (fun wx hox => ?_) ?_
          · skip
            have he := Lib.hid (HE.out.step hox)
            have htx := Lib.hid (hT.out.keep he.out.only)
            obtain ⟨i0, i1, i2, -, -, -⟩ := DB.cells he 4 rfl
            obtain ⟨j0, j1, j2, -, -, -⟩ := DB.cells he 3 rfl
            obtain ⟨l0, l1, l2, -, -, -⟩ := DB.cells he 1 rfl
            obtain ⟨m0, m1, m2, -, -, -⟩ := DB.cells he 0 rfl
            have ivx := DB.iv he 4 rfl
            have ivy := DB.iv he 3 rfl
            have ivu := DB.iv he 1 rfl
            have ivv := DB.iv he 0 rfl
            clear he
            refine withs_guard rfl rfl ?_
            simp only [withs, List.getElem?_cons_zero, List.getElem?_cons_succ, Option.bind, Option.getD]
            repeat (first | (with_reducible refine all_isV ?_) | (with_reducible refine all_isWC ?_; intro sx Ax kx cx hvx hwx) | (with_reducible refine all_isNR ?_; intro Ax kx cx hvx) | (with_reducible refine all_isNV ?_; intro Ax kx cx hvx) | (with_reducible refine all_isDV ?_; intro sx Ax kx cx hvx) | (with_reducible refine all_isWV ?_; intro sx Ax kx cx hvx) | (with_reducible refine all_isD ?_; intro sx Ax kx cx hvx hwx) | (with_reducible refine all_isRow ?_; intro gx' hbx) | (with_reducible refine all_isPtr ?_; intro gp' hbp hgp))
            refine ⟨by kernel_rfl, ?_⟩
            go_simp
            (with_reducible exact grow_of (signV_d (x := dSub x x) 0 (DV.of (by assumption)) HXX.out))
          refine owes2_cons (fun wx hox => ?_) ?_
          · skip
            skip
            refine withs_guard rfl rfl ?_
            simp only [withs, List.getElem?_cons_zero, List.getElem?_cons_succ, Option.bind, Option.getD]
            repeat (first | (with_reducible refine all_isV ?_) | (with_reducible refine all_isWC ?_; intro sx Ax kx cx hvx hwx) | (with_reducible refine all_isNR ?_; intro Ax kx cx hvx) | (with_reducible refine all_isNV ?_; intro Ax kx cx hvx) | (with_reducible refine all_isDV ?_; intro sx Ax kx cx hvx) | (with_reducible refine all_isWV ?_; intro sx Ax kx cx hvx) | (with_reducible refine all_isD ?_; intro sx Ax kx cx hvx hwx) | (with_reducible refine all_isRow ?_; intro gx' hbx) | (with_reducible refine all_isPtr ?_; intro gp' hbp hgp))
            refine ⟨by kernel_rfl, ?_⟩
            go_simp
            exact ⟨Only.refl _ _, isV.self _ _⟩
          refine owes2_cons (fun wx hox => ?_) ?_
          · skip
            skip
            refine withs_plain rfl ?_
            simp only [withs, List.getElem?_cons_zero, List.getElem?_cons_succ, Option.bind, Option.getD]
            repeat (first | (with_reducible refine all_isV ?_) | (with_reducible refine all_isWC ?_; intro sx Ax kx cx hvx hwx) | (with_reducible refine all_isNR ?_; intro Ax kx cx hvx) | (with_reducible refine all_isNV ?_; intro Ax kx cx hvx) | (with_reducible refine all_isDV ?_; intro sx Ax kx cx hvx) | (with_reducible refine all_isWV ?_; intro sx Ax kx cx hvx) | (with_reducible refine all_isD ?_; intro sx Ax kx cx hvx hwx) | (with_reducible refine all_isRow ?_; intro gx' hbx) | (with_reducible refine all_isPtr ?_; intro gp' hbp hgp))
            go_simp
            exact ⟨Only.refl _ _, isV.self _ _⟩
          refine owes2_cons (fun wx hox => ?_) ?_
          · skip
            skip
            refine withs_plain rfl ?_
            simp only [withs, List.getElem?_cons_zero, List.getElem?_cons_succ, Option.bind, Option.getD]
            repeat (first | (with_reducible refine all_isV ?_) | (with_reducible refine all_isWC ?_; intro sx Ax kx cx hvx hwx) | (with_reducible refine all_isNR ?_; intro Ax kx cx hvx) | (with_reducible refine all_isNV ?_; intro Ax kx cx hvx) | (with_reducible refine all_isDV ?_; intro sx Ax kx cx hvx) | (with_reducible refine all_isWV ?_; intro sx Ax kx cx hvx) | (with_reducible refine all_isD ?_; intro sx Ax kx cx hvx hwx) | (with_reducible refine all_isRow ?_; intro gx' hbx) | (with_reducible refine all_isPtr ?_; intro gp' hbp hgp))
            go_simp
            exact ⟨Only.refl _ _, isV.self _ _⟩
          refine owes2_cons (fun wx hox => ?_) ?_
          · skip
            have he := Lib.hid (HE.out.step hox)
            have htx := Lib.hid (hT.out.keep he.out.only)
            obtain ⟨i0, i1, i2, -, -, -⟩ := DB.cells he 4 rfl
            obtain ⟨j0, j1, j2, -, -, -⟩ := DB.cells he 3 rfl
            obtain ⟨l0, l1, l2, -, -, -⟩ := DB.cells he 1 rfl
            obtain ⟨m0, m1, m2, -, -, -⟩ := DB.cells he 0 rfl
            have ivx := DB.iv he 4 rfl
            have ivy := DB.iv he 3 rfl
            have ivu := DB.iv he 1 rfl
            have ivv := DB.iv he 0 rfl
            clear he
            refine withs_guard rfl rfl ?_
            simp only [withs, List.getElem?_cons_zero, List.getElem?_cons_succ, Option.bind, Option.getD]
            repeat (first | (with_reducible refine all_isV ?_) | (with_reducible refine all_isWC ?_; intro sx Ax kx cx hvx hwx) | (with_reducible refine all_isNR ?_; intro Ax kx cx hvx) | (with_reducible refine all_isNV ?_; intro Ax kx cx hvx) | (with_reducible refine all_isDV ?_; intro sx Ax kx cx hvx) | (with_reducible refine all_isWV ?_; intro sx Ax kx cx hvx) | (with_reducible refine all_isD ?_; intro sx Ax kx cx hvx hwx) | (with_reducible refine all_isRow ?_; intro gx' hbx) | (with_reducible refine all_isPtr ?_; intro gp' hbp hgp))
            refine ⟨by kernel_rfl, ?_⟩
            go_simp
            exact ⟨Only.refl _ _, isV.self _ _⟩
          refine owes2_cons (fun wx hox => ?_) ?_
          · skip
            have he := Lib.hid (HE.out.step hox)
            have htx := Lib.hid (hT.out.keep he.out.only)
            obtain ⟨i0, i1, i2, -, -, -⟩ := DB.cells he 4 rfl
            obtain ⟨j0, j1, j2, -, -, -⟩ := DB.cells he 3 rfl
            obtain ⟨l0, l1, l2, -, -, -⟩ := DB.cells he 1 rfl
            obtain ⟨m0, m1, m2, -, -, -⟩ := DB.cells he 0 rfl
            have ivx := DB.iv he 4 rfl
            have ivy := DB.iv he 3 rfl
            have ivu := DB.iv he 1 rfl
            have ivv := DB.iv he 0 rfl
            clear he
            refine withs_guard rfl rfl ?_
            simp only [withs, List.getElem?_cons_zero, List.getElem?_cons_succ, Option.bind, Option.getD]
            repeat (first | (with_reducible refine all_isV ?_) | (with_reducible refine all_isWC ?_; intro sx Ax kx cx hvx hwx) | (with_reducible refine all_isNR ?_; intro Ax kx cx hvx) | (with_reducible refine all_isNV ?_; intro Ax kx cx hvx) | (with_reducible refine all_isDV ?_; intro sx Ax kx cx hvx) | (with_reducible refine all_isWV ?_; intro sx Ax kx cx hvx) | (with_reducible refine all_isD ?_; intro sx Ax kx cx hvx hwx) | (with_reducible refine all_isRow ?_; intro gx' hbx) | (with_reducible refine all_isPtr ?_; intro gp' hbp hgp))
            refine ⟨by kernel_rfl, ?_⟩
            go_simp
            exact ⟨Only.refl _ _, isV.self _ _⟩
          refine owes2_cons (fun wx hox => ?_) ?_
          · skip
            have he := Lib.hid (HE.out.step hox)
            have htx := Lib.hid (hT.out.keep he.out.only)
            obtain ⟨i0, i1, i2, -, -, -⟩ := DB.cells he 4 rfl
            obtain ⟨j0, j1, j2, -, -, -⟩ := DB.cells he 3 rfl
            obtain ⟨l0, l1, l2, -, -, -⟩ := DB.cells he 1 rfl
            obtain ⟨m0, m1, m2, -, -, -⟩ := DB.cells he 0 rfl
            have ivx := DB.iv he 4 rfl
            have ivy := DB.iv he 3 rfl
            have ivu := DB.iv he 1 rfl
            have ivv := DB.iv he 0 rfl
            clear he
            refine withs_guard rfl rfl ?_
            simp only [withs, List.getElem?_cons_zero, List.getElem?_cons_succ, Option.bind, Option.getD]
            repeat (first | (with_reducible refine all_isV ?_) | (with_reducible refine all_isWC ?_; intro sx Ax kx cx hvx hwx) | (with_reducible refine all_isNR ?_; intro Ax kx cx hvx) | (with_reducible refine all_isNV ?_; intro Ax kx cx hvx) | (with_reducible refine all_isDV ?_; intro sx Ax kx cx hvx) | (with_reducible refine all_isWV ?_; intro sx Ax kx cx hvx) | (with_reducible refine all_isD ?_; intro sx Ax kx cx hvx hwx) | (with_reducible refine all_isRow ?_; intro gx' hbx) | (with_reducible refine all_isPtr ?_; intro gp' hbp hgp))
            refine ⟨by kernel_rfl, ?_⟩
            go_simp
            (with_reducible exact grow_d (mul_d (DV.of (by assumption)) (DV.of (by assumption)) BX BY (by omega) htx))
          refine owes2_cons (fun wx hox => ?_) ?_
          · skip
            have he := Lib.hid (HE.out.step hox)
            have htx := Lib.hid (hT.out.keep he.out.only)
            obtain ⟨i0, i1, i2, -, -, -⟩ := DB.cells he 4 rfl
            obtain ⟨j0, j1, j2, -, -, -⟩ := DB.cells he 3 rfl
            obtain ⟨l0, l1, l2, -, -, -⟩ := DB.cells he 1 rfl
            obtain ⟨m0, m1, m2, -, -, -⟩ := DB.cells he 0 rfl
            have ivx := DB.iv he 4 rfl
            have ivy := DB.iv he 3 rfl
            have ivu := DB.iv he 1 rfl
            have ivv := DB.iv he 0 rfl
            clear he
            refine withs_guard rfl rfl ?_
            simp only [withs, List.getElem?_cons_zero, List.getElem?_cons_succ, Option.bind, Option.getD]
            repeat (first | (with_reducible refine all_isV ?_) | (with_reducible refine all_isWC ?_; intro sx Ax kx cx hvx hwx) | (with_reducible refine all_isNR ?_; intro Ax kx cx hvx) | (with_reducible refine all_isNV ?_; intro Ax kx cx hvx) | (with_reducible refine all_isDV ?_; intro sx Ax kx cx hvx) | (with_reducible refine all_isWV ?_; intro sx Ax kx cx hvx) | (with_reducible refine all_isD ?_; intro sx Ax kx cx hvx hwx) | (with_reducible refine all_isRow ?_; intro gx' hbx) | (with_reducible refine all_isPtr ?_; intro gp' hbp hgp))
            refine ⟨by kernel_rfl, ?_⟩
            go_simp
            (with_reducible exact grow_of (signV_d (x := dMul x y) pq (DV.of (by assumption)) HPQ.out))
          refine owes2_cons (fun wx hox => ?_) ?_
          · skip
            have he := Lib.hid (HE.out.step hox)
            have htx := Lib.hid (hT.out.keep he.out.only)
            obtain ⟨i0, i1, i2, -, -, -⟩ := DB.cells he 4 rfl
            obtain ⟨j0, j1, j2, -, -, -⟩ := DB.cells he 3 rfl
            obtain ⟨l0, l1, l2, -, -, -⟩ := DB.cells he 1 rfl
            obtain ⟨m0, m1, m2, -, -, -⟩ := DB.cells he 0 rfl
            have ivx := DB.iv he 4 rfl
            have ivy := DB.iv he 3 rfl
            have ivu := DB.iv he 1 rfl
            have ivv := DB.iv he 0 rfl
            clear he
            refine withs_guard rfl rfl ?_
            simp only [withs, List.getElem?_cons_zero, List.getElem?_cons_succ, Option.bind, Option.getD]
            repeat (first | (with_reducible refine all_isV ?_) | (with_reducible refine all_isWC ?_; intro sx Ax kx cx hvx hwx) | (with_reducible refine all_isNR ?_; intro Ax kx cx hvx) | (with_reducible refine all_isNV ?_; intro Ax kx cx hvx) | (with_reducible refine all_isDV ?_; intro sx Ax kx cx hvx) | (with_reducible refine all_isWV ?_; intro sx Ax kx cx hvx) | (with_reducible refine all_isD ?_; intro sx Ax kx cx hvx hwx) | (with_reducible refine all_isRow ?_; intro gx' hbx) | (with_reducible refine all_isPtr ?_; intro gp' hbp hgp))
            refine ⟨by kernel_rfl, ?_⟩
            go_simp
            exact ⟨Only.refl _ _, isV.self _ _⟩
          refine owes2_cons (fun wx hox => ?_) ?_
          · skip
            have he := Lib.hid (HE.out.step hox)
            have htx := Lib.hid (hT.out.keep he.out.only)
            obtain ⟨i0, i1, i2, -, -, -⟩ := DB.cells he 4 rfl
            obtain ⟨j0, j1, j2, -, -, -⟩ := DB.cells he 3 rfl
            obtain ⟨l0, l1, l2, -, -, -⟩ := DB.cells he 1 rfl
            obtain ⟨m0, m1, m2, -, -, -⟩ := DB.cells he 0 rfl
            have ivx := DB.iv he 4 rfl
            have ivy := DB.iv he 3 rfl
            have ivu := DB.iv he 1 rfl
            have ivv := DB.iv he 0 rfl
            clear he
            refine withs_guard rfl rfl ?_
            simp only [withs, List.getElem?_cons_zero, List.getElem?_cons_succ, Option.bind, Option.getD]
            repeat (first | (with_reducible refine all_isV ?_) | (with_reducible refine all_isWC ?_; intro sx Ax kx cx hvx hwx) | (with_reducible refine all_isNR ?_; intro Ax kx cx hvx) | (with_reducible refine all_isNV ?_; intro Ax kx cx hvx) | (with_reducible refine all_isDV ?_; intro sx Ax kx cx hvx) | (with_reducible refine all_isWV ?_; intro sx Ax kx cx hvx) | (with_reducible refine all_isD ?_; intro sx Ax kx cx hvx hwx) | (with_reducible refine all_isRow ?_; intro gx' hbx) | (with_reducible refine all_isPtr ?_; intro gp' hbp hgp))
            refine ⟨by kernel_rfl, ?_⟩
            go_simp
            (with_reducible exact grow_of (signV_d (x := x) pa (DV.of (by assumption)) HPA.out))
          refine owes2_cons (fun wx hox => ?_) ?_
          · skip
            have he := Lib.hid (HE.out.step hox)
            have htx := Lib.hid (hT.out.keep he.out.only)
            obtain ⟨i0, i1, i2, -, -, -⟩ := DB.cells he 4 rfl
            obtain ⟨j0, j1, j2, -, -, -⟩ := DB.cells he 3 rfl
            obtain ⟨l0, l1, l2, -, -, -⟩ := DB.cells he 1 rfl
            obtain ⟨m0, m1, m2, -, -, -⟩ := DB.cells he 0 rfl
            have ivx := DB.iv he 4 rfl
            have ivy := DB.iv he 3 rfl
            have ivu := DB.iv he 1 rfl
            have ivv := DB.iv he 0 rfl
            clear he
            refine withs_guard rfl rfl ?_
            simp only [withs, List.getElem?_cons_zero, List.getElem?_cons_succ, Option.bind, Option.getD]
            repeat (first | (with_reducible refine all_isV ?_) | (with_reducible refine all_isWC ?_; intro sx Ax kx cx hvx hwx) | (with_reducible refine all_isNR ?_; intro Ax kx cx hvx) | (with_reducible refine all_isNV ?_; intro Ax kx cx hvx) | (with_reducible refine all_isDV ?_; intro sx Ax kx cx hvx) | (with_reducible refine all_isWV ?_; intro sx Ax kx cx hvx) | (with_reducible refine all_isD ?_; intro sx Ax kx cx hvx hwx) | (with_reducible refine all_isRow ?_; intro gx' hbx) | (with_reducible refine all_isPtr ?_; intro gp' hbp hgp))
            refine ⟨by kernel_rfl, ?_⟩
            go_simp
            exact ⟨Only.refl _ _, isV.self _ _⟩
          refine owes2_cons (fun wx hox => ?_) ?_
          · skip
            have he := Lib.hid (HE.out.step hox)
            have htx := Lib.hid (hT.out.keep he.out.only)
            obtain ⟨i0, i1, i2, -, -, -⟩ := DB.cells he 4 rfl
            obtain ⟨j0, j1, j2, -, -, -⟩ := DB.cells he 3 rfl
            obtain ⟨l0, l1, l2, -, -, -⟩ := DB.cells he 1 rfl
            obtain ⟨m0, m1, m2, -, -, -⟩ := DB.cells he 0 rfl
            have ivx := DB.iv he 4 rfl
            have ivy := DB.iv he 3 rfl
            have ivu := DB.iv he 1 rfl
            have ivv := DB.iv he 0 rfl
            clear he
            refine withs_guard rfl rfl ?_
            simp only [withs, List.getElem?_cons_zero, List.getElem?_cons_succ, Option.bind, Option.getD]
            repeat (first | (with_reducible refine all_isV ?_) | (with_reducible refine all_isWC ?_; intro sx Ax kx cx hvx hwx) | (with_reducible refine all_isNR ?_; intro Ax kx cx hvx) | (with_reducible refine all_isNV ?_; intro Ax kx cx hvx) | (with_reducible refine all_isDV ?_; intro sx Ax kx cx hvx) | (with_reducible refine all_isWV ?_; intro sx Ax kx cx hvx) | (with_reducible refine all_isD ?_; intro sx Ax kx cx hvx hwx) | (with_reducible refine all_isRow ?_; intro gx' hbx) | (with_reducible refine all_isPtr ?_; intro gp' hbp hgp))
            refine ⟨by kernel_rfl, ?_⟩
            go_simp
            (with_reducible exact grow_of (signV_d (x := y) pb (DV.of (by assumption)) HPB.out))
          refine owes2_cons (fun wx hox => ?_) ?_
          · skip
            skip
            refine withs_guard rfl rfl ?_
            simp only [withs, List.getElem?_cons_zero, List.getElem?_cons_succ, Option.bind, Option.getD]
            repeat (first | (with_reducible refine all_isV ?_) | (with_reducible refine all_isWC ?_; intro sx Ax kx cx hvx hwx) | (with_reducible refine all_isNR ?_; intro Ax kx cx hvx) | (with_reducible refine all_isNV ?_; intro Ax kx cx hvx) | (with_reducible refine all_isDV ?_; intro sx Ax kx cx hvx) | (with_reducible refine all_isWV ?_; intro sx Ax kx cx hvx) | (with_reducible refine all_isD ?_; intro sx Ax kx cx hvx hwx) | (with_reducible refine all_isRow ?_; intro gx' hbx) | (with_reducible refine all_isPtr ?_; intro gp' hbp hgp))
            refine ⟨by kernel_rfl, ?_⟩
            go_simp
            exact ⟨Only.refl _ _, isV.self _ _⟩
          refine owes2_cons (fun wx hox => ?_) ?_
          · skip
            skip
            refine withs_guard rfl rfl ?_
            simp only [withs, List.getElem?_cons_zero, List.getElem?_cons_succ, Option.bind, Option.getD]
            repeat (first | (with_reducible refine all_isV ?_) | (with_reducible refine all_isWC ?_; intro sx Ax kx cx hvx hwx) | (with_reducible refine all_isNR ?_; intro Ax kx cx hvx) | (with_reducible refine all_isNV ?_; intro Ax kx cx hvx) | (with_reducible refine all_isDV ?_; intro sx Ax kx cx hvx) | (with_reducible refine all_isWV ?_; intro sx Ax kx cx hvx) | (with_reducible refine all_isD ?_; intro sx Ax kx cx hvx hwx) | (with_reducible refine all_isRow ?_; intro gx' hbx) | (with_reducible refine all_isPtr ?_; intro gp' hbp hgp))
            refine ⟨by kernel_rfl, ?_⟩
            go_simp
            exact ⟨Only.refl _ _, isV.self _ _⟩
          refine owes2_cons (fun wx hox => ?_) ?_
          · skip
            skip
            refine withs_plain rfl ?_
            simp only [withs, List.getElem?_cons_zero, List.getElem?_cons_succ, Option.bind, Option.getD]
            repeat (first | (with_reducible refine all_isV ?_) | (with_reducible refine all_isWC ?_; intro sx Ax kx cx hvx hwx) | (with_reducible refine all_isNR ?_; intro Ax kx cx hvx) | (with_reducible refine all_isNV ?_; intro Ax kx cx hvx) | (with_reducible refine all_isDV ?_; intro sx Ax kx cx hvx) | (with_reducible refine all_isWV ?_; intro sx Ax kx cx hvx) | (with_reducible refine all_isD ?_; intro sx Ax kx cx hvx hwx) | (with_reducible refine all_isRow ?_; intro gx' hbx) | (with_reducible refine all_isPtr ?_; intro gp' hbp hgp))
            go_simp
            exact ⟨Only.refl _ _, isV.self _ _⟩
          refine owes2_cons (fun wx hox => ?_) ?_
          · skip
            skip
            refine withs_plain rfl ?_
            simp only [withs, List.getElem?_cons_zero, List.getElem?_cons_succ, Option.bind, Option.getD]
            repeat (first | (with_reducible refine all_isV ?_) | (with_reducible refine all_isWC ?_; intro sx Ax kx cx hvx hwx) | (with_reducible refine all_isNR ?_; intro Ax kx cx hvx) | (with_reducible refine all_isNV ?_; intro Ax kx cx hvx) | (with_reducible refine all_isDV ?_; intro sx Ax kx cx hvx) | (with_reducible refine all_isWV ?_; intro sx Ax kx cx hvx) | (with_reducible refine all_isD ?_; intro sx Ax kx cx hvx hwx) | (with_reducible refine all_isRow ?_; intro gx' hbx) | (with_reducible refine all_isPtr ?_; intro gp' hbp hgp))
            go_simp
            exact ⟨Only.refl _ _, isV.self _ _⟩
          refine owes2_cons (fun wx hox => ?_) ?_
          · skip
            have he := Lib.hid (HE.out.step hox)
            have htx := Lib.hid (hT.out.keep he.out.only)
            obtain ⟨i0, i1, i2, -, -, -⟩ := DB.cells he 4 rfl
            obtain ⟨j0, j1, j2, -, -, -⟩ := DB.cells he 3 rfl
            obtain ⟨l0, l1, l2, -, -, -⟩ := DB.cells he 1 rfl
            obtain ⟨m0, m1, m2, -, -, -⟩ := DB.cells he 0 rfl
            have ivx := DB.iv he 4 rfl
            have ivy := DB.iv he 3 rfl
            have ivu := DB.iv he 1 rfl
            have ivv := DB.iv he 0 rfl
            clear he
            refine withs_guard rfl rfl ?_
            simp only [withs, List.getElem?_cons_zero, List.getElem?_cons_succ, Option.bind, Option.getD]
            repeat (first | (with_reducible refine all_isV ?_) | (with_reducible refine all_isWC ?_; intro sx Ax kx cx hvx hwx) | (with_reducible refine all_isNR ?_; intro Ax kx cx hvx) | (with_reducible refine all_isNV ?_; intro Ax kx cx hvx) | (with_reducible refine all_isDV ?_; intro sx Ax kx cx hvx) | (with_reducible refine all_isWV ?_; intro sx Ax kx cx hvx) | (with_reducible refine all_isD ?_; intro sx Ax kx cx hvx hwx) | (with_reducible refine all_isRow ?_; intro gx' hbx) | (with_reducible refine all_isPtr ?_; intro gp' hbp hgp))
            refine ⟨by kernel_rfl, ?_⟩
            go_simp
            exact ⟨Only.refl _ _, isV.self _ _⟩
          refine owes2_cons (fun wx hox => ?_) ?_
          · skip
            have he := Lib.hid (HE.out.step hox)
            have htx := Lib.hid (hT.out.keep he.out.only)
            obtain ⟨i0, i1, i2, -, -, -⟩ := DB.cells he 4 rfl
            obtain ⟨j0, j1, j2, -, -, -⟩ := DB.cells he 3 rfl
            obtain ⟨l0, l1, l2, -, -, -⟩ := DB.cells he 1 rfl
            obtain ⟨m0, m1, m2, -, -, -⟩ := DB.cells he 0 rfl
            have ivx := DB.iv he 4 rfl
            have ivy := DB.iv he 3 rfl
            have ivu := DB.iv he 1 rfl
            have ivv := DB.iv he 0 rfl
            clear he
            refine withs_guard rfl rfl ?_
            simp only [withs, List.getElem?_cons_zero, List.getElem?_cons_succ, Option.bind, Option.getD]
            repeat (first | (with_reducible refine all_isV ?_) | (with_reducible refine all_isWC ?_; intro sx Ax kx cx hvx hwx) | (with_reducible refine all_isNR ?_; intro Ax kx cx hvx) | (with_reducible refine all_isNV ?_; intro Ax kx cx hvx) | (with_reducible refine all_isDV ?_; intro sx Ax kx cx hvx) | (with_reducible refine all_isWV ?_; intro sx Ax kx cx hvx) | (with_reducible refine all_isD ?_; intro sx Ax kx cx hvx hwx) | (with_reducible refine all_isRow ?_; intro gx' hbx) | (with_reducible refine all_isPtr ?_; intro gp' hbp hgp))
            refine ⟨by kernel_rfl, ?_⟩
            go_simp
            exact ⟨Only.refl _ _, isV.self _ _⟩
          refine owes2_cons (fun wx hox => ?_) ?_
          · skip
            have he := Lib.hid (HE.out.step hox)
            have htx := Lib.hid (hT.out.keep he.out.only)
            obtain ⟨i0, i1, i2, -, -, -⟩ := DB.cells he 4 rfl
            obtain ⟨j0, j1, j2, -, -, -⟩ := DB.cells he 3 rfl
            obtain ⟨l0, l1, l2, -, -, -⟩ := DB.cells he 1 rfl
            obtain ⟨m0, m1, m2, -, -, -⟩ := DB.cells he 0 rfl
            have ivx := DB.iv he 4 rfl
            have ivy := DB.iv he 3 rfl
            have ivu := DB.iv he 1 rfl
            have ivv := DB.iv he 0 rfl
            clear he
            refine withs_guard rfl rfl ?_
            simp only [withs, List.getElem?_cons_zero, List.getElem?_cons_succ, Option.bind, Option.getD]
            repeat (first | (with_reducible refine all_isV ?_) | (with_reducible refine all_isWC ?_; intro sx Ax kx cx hvx hwx) | (with_reducible refine all_isNR ?_; intro Ax kx cx hvx) | (with_reducible refine all_isNV ?_; intro Ax kx cx hvx) | (with_reducible refine all_isDV ?_; intro sx Ax kx cx hvx) | (with_reducible refine all_isWV ?_; intro sx Ax kx cx hvx) | (with_reducible refine all_isD ?_; intro sx Ax kx cx hvx hwx) | (with_reducible refine all_isRow ?_; intro gx' hbx) | (with_reducible refine all_isPtr ?_; intro gp' hbp hgp))
            refine ⟨by kernel_rfl, ?_⟩
            go_simp
            (with_reducible exact grow_of (cmpV_d (x := x) (y := y) r (DV.of (by assumption)) (DV.of (by assumption)) BX BY (by omega) HR1.out))
          refine owes2_cons (fun wx hox => ?_) ?_
          · skip
            have he := Lib.hid (HE.out.step hox)
            have htx := Lib.hid (hT.out.keep he.out.only)
            obtain ⟨i0, i1, i2, -, -, -⟩ := DB.cells he 4 rfl
            obtain ⟨j0, j1, j2, -, -, -⟩ := DB.cells he 3 rfl
            obtain ⟨l0, l1, l2, -, -, -⟩ := DB.cells he 1 rfl
            obtain ⟨m0, m1, m2, -, -, -⟩ := DB.cells he 0 rfl
            have ivx := DB.iv he 4 rfl
            have ivy := DB.iv he 3 rfl
            have ivu := DB.iv he 1 rfl
            have ivv := DB.iv he 0 rfl
            clear he
            refine withs_guard rfl rfl ?_
            simp only [withs, List.getElem?_cons_zero, List.getElem?_cons_succ, Option.bind, Option.getD]
            repeat (first | (with_reducible refine all_isV ?_) | (with_reducible refine all_isWC ?_; intro sx Ax kx cx hvx hwx) | (with_reducible refine all_isNR ?_; intro Ax kx cx hvx) | (with_reducible refine all_isNV ?_; intro Ax kx cx hvx) | (with_reducible refine all_isDV ?_; intro sx Ax kx cx hvx) | (with_reducible refine all_isWV ?_; intro sx Ax kx cx hvx) | (with_reducible refine all_isD ?_; intro sx Ax kx cx hvx hwx) | (with_reducible refine all_isRow ?_; intro gx' hbx) | (with_reducible refine all_isPtr ?_; intro gp' hbp hgp))
            refine ⟨by kernel_rfl, ?_⟩
            go_simp
            exact ⟨Only.refl _ _, isV.self _ _⟩
          refine owes2_cons (fun wx hox => ?_) ?_
          · skip
            have he := Lib.hid (HE.out.step hox)
            have htx := Lib.hid (hT.out.keep he.out.only)
            obtain ⟨i0, i1, i2, -, -, -⟩ := DB.cells he 4 rfl
            obtain ⟨j0, j1, j2, -, -, -⟩ := DB.cells he 3 rfl
            obtain ⟨l0, l1, l2, -, -, -⟩ := DB.cells he 1 rfl
            obtain ⟨m0, m1, m2, -, -, -⟩ := DB.cells he 0 rfl
            have ivx := DB.iv he 4 rfl
            have ivy := DB.iv he 3 rfl
            have ivu := DB.iv he 1 rfl
            have ivv := DB.iv he 0 rfl
            clear he
            refine withs_guard rfl rfl ?_
            simp only [withs, List.getElem?_cons_zero, List.getElem?_cons_succ, Option.bind, Option.getD]
            repeat (first | (with_reducible refine all_isV ?_) | (with_reducible refine all_isWC ?_; intro sx Ax kx cx hvx hwx) | (with_reducible refine all_isNR ?_; intro Ax kx cx hvx) | (with_reducible refine all_isNV ?_; intro Ax kx cx hvx) | (with_reducible refine all_isDV ?_; intro sx Ax kx cx hvx) | (with_reducible refine all_isWV ?_; intro sx Ax kx cx hvx) | (with_reducible refine all_isD ?_; intro sx Ax kx cx hvx hwx) | (with_reducible refine all_isRow ?_; intro gx' hbx) | (with_reducible refine all_isPtr ?_; intro gp' hbp hgp))
            refine ⟨by kernel_rfl, ?_⟩
            go_simp
            exact ⟨Only.refl _ _, isV.self _ _⟩
          refine owes2_cons (fun wx hox => ?_) ?_
          · skip
            have he := Lib.hid (HE.out.step hox)
            have htx := Lib.hid (hT.out.keep he.out.only)
            obtain ⟨i0, i1, i2, -, -, -⟩ := DB.cells he 4 rfl
            obtain ⟨j0, j1, j2, -, -, -⟩ := DB.cells he 3 rfl
            obtain ⟨l0, l1, l2, -, -, -⟩ := DB.cells he 1 rfl
            obtain ⟨m0, m1, m2, -, -, -⟩ := DB.cells he 0 rfl
            have ivx := DB.iv he 4 rfl
            have ivy := DB.iv he 3 rfl
            have ivu := DB.iv he 1 rfl
            have ivv := DB.iv he 0 rfl
            clear he
            refine withs_guard rfl rfl ?_
            simp only [withs, List.getElem?_cons_zero, List.getElem?_cons_succ, Option.bind, Option.getD]
            repeat (first | (with_reducible refine all_isV ?_) | (with_reducible refine all_isWC ?_; intro sx Ax kx cx hvx hwx) | (with_reducible refine all_isNR ?_; intro Ax kx cx hvx) | (with_reducible refine all_isNV ?_; intro Ax kx cx hvx) | (with_reducible refine all_isDV ?_; intro sx Ax kx cx hvx) | (with_reducible refine all_isWV ?_; intro sx Ax kx cx hvx) | (with_reducible refine all_isD ?_; intro sx Ax kx cx hvx hwx) | (with_reducible refine all_isRow ?_; intro gx' hbx) | (with_reducible refine all_isPtr ?_; intro gp' hbp hgp))
            refine ⟨by kernel_rfl, ?_⟩
            go_simp
            (with_reducible exact grow_of (cmpV_d (x := y) (y := x) (-r) (DV.of (by assumption)) (DV.of (by assumption)) BY BX (by omega) HR2.out))
          refine owes2_cons (fun wx hox => ?_) ?_
          · skip
            skip
            refine withs_guard rfl rfl ?_
            simp only [withs, List.getElem?_cons_zero, List.getElem?_cons_succ, Option.bind, Option.getD]
            repeat (first | (with_reducible refine all_isV ?_) | (with_reducible refine all_isWC ?_; intro sx Ax kx cx hvx hwx) | (with_reducible refine all_isNR ?_; intro Ax kx cx hvx) | (with_reducible refine all_isNV ?_; intro Ax kx cx hvx) | (with_reducible refine all_isDV ?_; intro sx Ax kx cx hvx) | (with_reducible refine all_isWV ?_; intro sx Ax kx cx hvx) | (with_reducible refine all_isD ?_; intro sx Ax kx cx hvx hwx) | (with_reducible refine all_isRow ?_; intro gx' hbx) | (with_reducible refine all_isPtr ?_; intro gp' hbp hgp))
            refine ⟨by kernel_rfl, ?_⟩
            go_simp
            exact ⟨Only.refl _ _, isV.self _ _⟩
          refine owes2_cons (fun wx hox => ?_) ?_
          · skip
            skip
            refine withs_guard rfl rfl ?_
            simp only [withs, List.getElem?_cons_zero, List.getElem?_cons_succ, Option.bind, Option.getD]
            repeat (first | (with_reducible refine all_isV ?_) | (with_reducible refine all_isWC ?_; intro sx Ax kx cx hvx hwx) | (with_reducible refine all_isNR ?_; intro Ax kx cx hvx) | (with_reducible refine all_isNV ?_; intro Ax kx cx hvx) | (with_reducible refine all_isDV ?_; intro sx Ax kx cx hvx) | (with_reducible refine all_isWV ?_; intro sx Ax kx cx hvx) | (with_reducible refine all_isD ?_; intro sx Ax kx cx hvx hwx) | (with_reducible refine all_isRow ?_; intro gx' hbx) | (with_reducible refine all_isPtr ?_; intro gp' hbp hgp))
            refine ⟨by kernel_rfl, ?_⟩
            go_simp
            exact ⟨Only.refl _ _, isV.self _ _⟩
          refine owes2_cons (fun wx hox => ?_) ?_
          · skip
            skip
            refine withs_plain rfl ?_
            simp only [withs, List.getElem?_cons_zero, List.getElem?_cons_succ, Option.bind, Option.getD]
            repeat (first | (with_reducible refine all_isV ?_) | (with_reducible refine all_isWC ?_; intro sx Ax kx cx hvx hwx) | (with_reducible refine all_isNR ?_; intro Ax kx cx hvx) | (with_reducible refine all_isNV ?_; intro Ax kx cx hvx) | (with_reducible refine all_isDV ?_; intro sx Ax kx cx hvx) | (with_reducible refine all_isWV ?_; intro sx Ax kx cx hvx) | (with_reducible refine all_isD ?_; intro sx Ax kx cx hvx hwx) | (with_reducible refine all_isRow ?_; intro gx' hbx) | (with_reducible refine all_isPtr ?_; intro gp' hbp hgp))
            go_simp
            exact ⟨Only.refl _ _, isV.self _ _⟩
          refine owes2_cons (fun wx hox => ?_) ?_
          · skip
            skip
            refine withs_plain rfl ?_
            simp only [withs, List.getElem?_cons_zero, List.getElem?_cons_succ, Option.bind, Option.getD]
            repeat (first | (with_reducible refine all_isV ?_) | (with_reducible refine all_isWC ?_; intro sx Ax kx cx hvx hwx) | (with_reducible refine all_isNR ?_; intro Ax kx cx hvx) | (with_reducible refine all_isNV ?_; intro Ax kx cx hvx) | (with_reducible refine all_isDV ?_; intro sx Ax kx cx hvx) | (with_reducible refine all_isWV ?_; intro sx Ax kx cx hvx) | (with_reducible refine all_isD ?_; intro sx Ax kx cx hvx hwx) | (with_reducible refine all_isRow ?_; intro gx' hbx) | (with_reducible refine all_isPtr ?_; intro gp' hbp hgp))
            go_simp
            exact ⟨Only.refl _ _, isV.self _ _⟩
          refine owes2_cons (fun wx hox => ?_) ?_
          · skip
            have he := Lib.hid (HE.out.step hox)
            have htx := Lib.hid (hT.out.keep he.out.only)
            obtain ⟨i0, i1, i2, -, -, -⟩ := DB.cells he 4 rfl
            obtain ⟨j0, j1, j2, -, -, -⟩ := DB.cells he 3 rfl
            obtain ⟨l0, l1, l2, -, -, -⟩ := DB.cells he 1 rfl
            obtain ⟨m0, m1, m2, -, -, -⟩ := DB.cells he 0 rfl
            have ivx := DB.iv he 4 rfl
            have ivy := DB.iv he 3 rfl
            have ivu := DB.iv he 1 rfl
            have ivv := DB.iv he 0 rfl
            clear he
            refine withs_guard rfl rfl ?_
            simp only [withs, List.getElem?_cons_zero, List.getElem?_cons_succ, Option.bind, Option.getD]
            repeat (first | (with_reducible refine all_isV ?_) | (with_reducible refine all_isWC ?_; intro sx Ax kx cx hvx hwx) | (with_reducible refine all_isNR ?_; intro Ax kx cx hvx) | (with_reducible refine all_isNV ?_; intro Ax kx cx hvx) | (with_reducible refine all_isDV ?_; intro sx Ax kx cx hvx) | (with_reducible refine all_isWV ?_; intro sx Ax kx cx hvx) | (with_reducible refine all_isD ?_; intro sx Ax kx cx hvx hwx) | (with_reducible refine all_isRow ?_; intro gx' hbx) | (with_reducible refine all_isPtr ?_; intro gp' hbp hgp))
            refine ⟨by kernel_rfl, ?_⟩
            go_simp
            exact ⟨Only.refl _ _, isV.self _ _⟩
          refine owes2_cons (fun wx hox => ?_) ?_
          · skip
            have he := Lib.hid (HE.out.step hox)
            have htx := Lib.hid (hT.out.keep he.out.only)
            obtain ⟨i0, i1, i2, -, -, -⟩ := DB.cells he 4 rfl
            obtain ⟨j0, j1, j2, -, -, -⟩ := DB.cells he 3 rfl
            obtain ⟨l0, l1, l2, -, -, -⟩ := DB.cells he 1 rfl
            obtain ⟨m0, m1, m2, -, -, -⟩ := DB.cells he 0 rfl
            have ivx := DB.iv he 4 rfl
            have ivy := DB.iv he 3 rfl
            have ivu := DB.iv he 1 rfl
            have ivv := DB.iv he 0 rfl
            clear he
            refine withs_guard rfl rfl ?_
            simp only [withs, List.getElem?_cons_zero, List.getElem?_cons_succ, Option.bind, Option.getD]
            repeat (first | (with_reducible refine all_isV ?_) | (with_reducible refine all_isWC ?_; intro sx Ax kx cx hvx hwx) | (with_reducible refine all_isNR ?_; intro Ax kx cx hvx) | (with_reducible refine all_isNV ?_; intro Ax kx cx hvx) | (with_reducible refine all_isDV ?_; intro sx Ax kx cx hvx) | (with_reducible refine all_isWV ?_; intro sx Ax kx cx hvx) | (with_reducible refine all_isD ?_; intro sx Ax kx cx hvx hwx) | (with_reducible refine all_isRow ?_; intro gx' hbx) | (with_reducible refine all_isPtr ?_; intro gp' hbp hgp))
            refine ⟨by kernel_rfl, ?_⟩
            go_simp
            exact ⟨Only.refl _ _, isV.self _ _⟩
          refine owes2_cons (fun wx hox => ?_) ?_
          · skip
            have he := Lib.hid (HE.out.step hox)
            have htx := Lib.hid (hT.out.keep he.out.only)
            obtain ⟨i0, i1, i2, -, -, -⟩ := DB.cells he 4 rfl
            obtain ⟨j0, j1, j2, -, -, -⟩ := DB.cells he 3 rfl
            obtain ⟨l0, l1, l2, -, -, -⟩ := DB.cells he 1 rfl
            obtain ⟨m0, m1, m2, -, -, -⟩ := DB.cells he 0 rfl
            have ivx := DB.iv he 4 rfl
            have ivy := DB.iv he 3 rfl
            have ivu := DB.iv he 1 rfl
            have ivv := DB.iv he 0 rfl
            clear he
            refine withs_guard rfl rfl ?_
            simp only [withs, List.getElem?_cons_zero, List.getElem?_cons_succ, Option.bind, Option.getD]
            repeat (first | (with_reducible refine all_isV ?_) | (with_reducible refine all_isWC ?_; intro sx Ax kx cx hvx hwx) | (with_reducible refine all_isNR ?_; intro Ax kx cx hvx) | (with_reducible refine all_isNV ?_; intro Ax kx cx hvx) | (with_reducible refine all_isDV ?_; intro sx Ax kx cx hvx) | (with_reducible refine all_isWV ?_; intro sx Ax kx cx hvx) | (with_reducible refine all_isD ?_; intro sx Ax kx cx hvx hwx) | (with_reducible refine all_isRow ?_; intro gx' hbx) | (with_reducible refine all_isPtr ?_; intro gp' hbp hgp))
            refine ⟨by kernel_rfl, ?_⟩
            go_simp
            (with_reducible exact grow_d (sub_d (DV.of (by assumption)) (DV.of (by assumption)) BX BY (by omega) htx))
          refine owes2_cons (fun wx hox => ?_) ?_
          · skip
            have he := Lib.hid (HE.out.step hox)
            have htx := Lib.hid (hT.out.keep he.out.only)
            obtain ⟨i0, i1, i2, -, -, -⟩ := DB.cells he 4 rfl
            obtain ⟨j0, j1, j2, -, -, -⟩ := DB.cells he 3 rfl
            obtain ⟨l0, l1, l2, -, -, -⟩ := DB.cells he 1 rfl
            obtain ⟨m0, m1, m2, -, -, -⟩ := DB.cells he 0 rfl
            have ivx := DB.iv he 4 rfl
            have ivy := DB.iv he 3 rfl
            have ivu := DB.iv he 1 rfl
            have ivv := DB.iv he 0 rfl
            clear he
            refine withs_guard rfl rfl ?_
            simp only [withs, List.getElem?_cons_zero, List.getElem?_cons_succ, Option.bind, Option.getD]
            repeat (first | (with_reducible refine all_isV ?_) | (with_reducible refine all_isWC ?_; intro sx Ax kx cx hvx hwx) | (with_reducible refine all_isNR ?_; intro Ax kx cx hvx) | (with_reducible refine all_isNV ?_; intro Ax kx cx hvx) | (with_reducible refine all_isDV ?_; intro sx Ax kx cx hvx) | (with_reducible refine all_isWV ?_; intro sx Ax kx cx hvx) | (with_reducible refine all_isD ?_; intro sx Ax kx cx hvx hwx) | (with_reducible refine all_isRow ?_; intro gx' hbx) | (with_reducible refine all_isPtr ?_; intro gp' hbp hgp))
            refine ⟨by kernel_rfl, ?_⟩
            go_simp
            (with_reducible exact grow_of (signV_d (x := dSub x y) r (DV.of (by assumption)) HR3.out))
          refine owes2_cons (fun wx hox => ?_) ?_
          · skip
            have he := Lib.hid (HE.out.step hox)
            have htx := Lib.hid (hT.out.keep he.out.only)
            obtain ⟨i0, i1, i2, -, -, -⟩ := DB.cells he 4 rfl
            obtain ⟨j0, j1, j2, -, -, -⟩ := DB.cells he 3 rfl
            obtain ⟨l0, l1, l2, -, -, -⟩ := DB.cells he 1 rfl
            obtain ⟨m0, m1, m2, -, -, -⟩ := DB.cells he 0 rfl
            have ivx := DB.iv he 4 rfl
            have ivy := DB.iv he 3 rfl
            have ivu := DB.iv he 1 rfl
            have ivv := DB.iv he 0 rfl
            clear he
            refine withs_guard rfl rfl ?_
            simp only [withs, List.getElem?_cons_zero, List.getElem?_cons_succ, Option.bind, Option.getD]
            repeat (first | (with_reducible refine all_isV ?_) | (with_reducible refine all_isWC ?_; intro sx Ax kx cx hvx hwx) | (with_reducible refine all_isNR ?_; intro Ax kx cx hvx) | (with_reducible refine all_isNV ?_; intro Ax kx cx hvx) | (with_reducible refine all_isDV ?_; intro sx Ax kx cx hvx) | (with_reducible refine all_isWV ?_; intro sx Ax kx cx hvx) | (with_reducible refine all_isD ?_; intro sx Ax kx cx hvx hwx) | (with_reducible refine all_isRow ?_; intro gx' hbx) | (with_reducible refine all_isPtr ?_; intro gp' hbp hgp))
            refine ⟨by kernel_rfl, ?_⟩
            go_simp
            exact ⟨Only.refl _ _, isV.self _ _⟩
          refine owes2_cons (fun wx hox => ?_) ?_
          · skip
            have he := Lib.hid (HE.out.step hox)
            have htx := Lib.hid (hT.out.keep he.out.only)
            obtain ⟨i0, i1, i2, -, -, -⟩ := DB.cells he 4 rfl
            obtain ⟨j0, j1, j2, -, -, -⟩ := DB.cells he 3 rfl
            obtain ⟨l0, l1, l2, -, -, -⟩ := DB.cells he 1 rfl
            obtain ⟨m0, m1, m2, -, -, -⟩ := DB.cells he 0 rfl
            have ivx := DB.iv he 4 rfl
            have ivy := DB.iv he 3 rfl
            have ivu := DB.iv he 1 rfl
            have ivv := DB.iv he 0 rfl
            clear he
            refine withs_guard rfl rfl ?_
            simp only [withs, List.getElem?_cons_zero, List.getElem?_cons_succ, Option.bind, Option.getD]
            repeat (first | (with_reducible refine all_isV ?_) | (with_reducible refine all_isWC ?_; intro sx Ax kx cx hvx hwx) | (with_reducible refine all_isNR ?_; intro Ax kx cx hvx) | (with_reducible refine all_isNV ?_; intro Ax kx cx hvx) | (with_reducible refine all_isDV ?_; intro sx Ax kx cx hvx) | (with_reducible refine all_isWV ?_; intro sx Ax kx cx hvx) | (with_reducible refine all_isD ?_; intro sx Ax kx cx hvx hwx) | (with_reducible refine all_isRow ?_; intro gx' hbx) | (with_reducible refine all_isPtr ?_; intro gp' hbp hgp))
            refine ⟨by kernel_rfl, ?_⟩
            go_simp
            exact ⟨Only.refl _ _, isV.self _ _⟩
          refine owes2_cons (fun wx hox => ?_) ?_
          · skip
            have he := Lib.hid (HE.out.step hox)
            have htx := Lib.hid (hT.out.keep he.out.only)
            obtain ⟨i0, i1, i2, -, -, -⟩ := DB.cells he 4 rfl
            obtain ⟨j0, j1, j2, -, -, -⟩ := DB.cells he 3 rfl
            obtain ⟨l0, l1, l2, -, -, -⟩ := DB.cells he 1 rfl
            obtain ⟨m0, m1, m2, -, -, -⟩ := DB.cells he 0 rfl
            have ivx := DB.iv he 4 rfl
            have ivy := DB.iv he 3 rfl
            have ivu := DB.iv he 1 rfl
            have ivv := DB.iv he 0 rfl
            clear he
            refine withs_guard rfl rfl ?_
            simp only [withs, List.getElem?_cons_zero, List.getElem?_cons_succ, Option.bind, Option.getD]
            repeat (first | (with_reducible refine all_isV ?_) | (with_reducible refine all_isWC ?_; intro sx Ax kx cx hvx hwx) | (with_reducible refine all_isNR ?_; intro Ax kx cx hvx) | (with_reducible refine all_isNV ?_; intro Ax kx cx hvx) | (with_reducible refine all_isDV ?_; intro sx Ax kx cx hvx) | (with_reducible refine all_isWV ?_; intro sx Ax kx cx hvx) | (with_reducible refine all_isD ?_; intro sx Ax kx cx hvx hwx) | (with_reducible refine all_isRow ?_; intro gx' hbx) | (with_reducible refine all_isPtr ?_; intro gp' hbp hgp))
            refine ⟨by kernel_rfl, ?_⟩
            go_simp
            (with_reducible exact grow_of (cmpV_d (x := x) (y := y) r (DV.of (by assumption)) (DV.of (by assumption)) BX BY (by omega) HR1.out))
          refine owes2_cons (fun wx hox => ?_) ?_
          · skip
            skip
            refine withs_guard rfl rfl ?_
            simp only [withs, List.getElem?_cons_zero, List.getElem?_cons_succ, Option.bind, Option.getD]
            repeat (first | (with_reducible refine all_isV ?_) | (with_reducible refine all_isWC ?_; intro sx Ax kx cx hvx hwx) | (with_reducible refine all_isNR ?_; intro Ax kx cx hvx) | (with_reducible refine all_isNV ?_; intro Ax kx cx hvx) | (with_reducible refine all_isDV ?_; intro sx Ax kx cx hvx) | (with_reducible refine all_isWV ?_; intro sx Ax kx cx hvx) | (with_reducible refine all_isD ?_; intro sx Ax kx cx hvx hwx) | (with_reducible refine all_isRow ?_; intro gx' hbx) | (with_reducible refine all_isPtr ?_; intro gp' hbp hgp))
            refine ⟨by kernel_rfl, ?_⟩
            go_simp
            exact ⟨Only.refl _ _, isV.self _ _⟩
          refine owes2_cons (fun wx hox => ?_) ?_
          · skip
            skip
            refine withs_plain rfl ?_
            simp only [withs, List.getElem?_cons_zero, List.getElem?_cons_succ, Option.bind, Option.getD]
            repeat (first | (with_reducible refine all_isV ?_) | (with_reducible refine all_isWC ?_; intro sx Ax kx cx hvx hwx) | (with_reducible refine all_isNR ?_; intro Ax kx cx hvx) | (with_reducible refine all_isNV ?_; intro Ax kx cx hvx) | (with_reducible refine all_isDV ?_; intro sx Ax kx cx hvx) | (with_reducible refine all_isWV ?_; intro sx Ax kx cx hvx) | (with_reducible refine all_isD ?_; intro sx Ax kx cx hvx hwx) | (with_reducible refine all_isRow ?_; intro gx' hbx) | (with_reducible refine all_isPtr ?_; intro gp' hbp hgp))
            go_simp
            exact ⟨Only.refl _ _, isV.self _ _⟩
          refine owes2_cons (fun wx hox => ?_) ?_
          · skip
            skip
            refine withs_plain rfl ?_
            simp only [withs, List.getElem?_cons_zero, List.getElem?_cons_succ, Option.bind, Option.getD]
            repeat (first | (with_reducible refine all_isV ?_) | (with_reducible refine all_isWC ?_; intro sx Ax kx cx hvx hwx) | (with_reducible refine all_isNR ?_; intro Ax kx cx hvx) | (with_reducible refine all_isNV ?_; intro Ax kx cx hvx) | (with_reducible refine all_isDV ?_; intro sx Ax kx cx hvx) | (with_reducible refine all_isWV ?_; intro sx Ax kx cx hvx) | (with_reducible refine all_isD ?_; intro sx Ax kx cx hvx hwx) | (with_reducible refine all_isRow ?_; intro gx' hbx) | (with_reducible refine all_isPtr ?_; intro gp' hbp hgp))
            go_simp
            exact ⟨Only.refl _ _, isV.self _ _⟩
          exact owes2_nil
        case he =>
          intro wx hox
          refine withs_of (by simp only [List.length, List.range, List.range.loop]; exact rfl) ?_
          simp only [withs, List.getElem?_cons_zero, List.getElem?_cons_succ, Option.bind, Option.getD]
          repeat (first | (with_reducible refine all_isV ?_) | (with_reducible refine all_isWC ?_; intro sx Ax kx cx hvx hwx) | (with_reducible refine all_isNR ?_; intro Ax kx cx hvx) | (with_reducible refine all_isNV ?_; intro Ax kx cx hvx) | (with_reducible refine all_isDV ?_; intro sx Ax kx cx hvx) | (with_reducible refine all_isWV ?_; intro sx Ax kx cx hvx) | (with_reducible refine all_isD ?_; intro sx Ax kx cx hvx hwx) | (with_reducible refine all_isRow ?_; intro gx' hbx) | (with_reducible refine all_isPtr ?_; intro gp' hbp hgp))
          go_simp
          go_wp2_with fail
          go_ret
          exact ⟨rfl, HE.out.only.nil_trans hox⟩
        case hl =>
          repeat (refine List.forall_mem_cons.2 ⟨?_, ?_⟩; first | exact isV.lasts _ | exact isD.lasts _ | exact isNV.lasts _ | exact isDV.lasts _ | exact isWV.lasts _ | exact isWC.lasts _ | exact isNR.lasts _ _ | exact isWR.lasts _ _ | exact isRow.lasts _ _ _ | exact isPtr.lasts _ _ _)
          exact fun _ h => (by cases h)
      case hl =>
        repeat (refine List.forall_mem_cons.2 ⟨?_, ?_⟩; first | exact isV.lasts _ | exact isD.lasts _ | exact isNV.lasts _ | exact isDV.lasts _ | exact isWV.lasts _ | exact isWC.lasts _ | exact isNR.lasts _ _ | exact isWR.lasts _ _ | exact isRow.lasts _ _ _ | exact isPtr.lasts _ _ _)
        exact fun _ h => (by cases h)
    case hl =>
      repeat (refine List.forall_mem_cons.2 ⟨?_, ?_⟩; first | exact isV.lasts _ | exact isD.lasts _ | exact isNV.lasts _ | exact isDV.lasts _ | exact isWV.lasts _ | exact isWC.lasts _ | exact isNR.lasts _ _ | exact isWR.lasts _ _ | exact isRow.lasts _ _ _ | exact isPtr.lasts _ _ _)
      exact fun _ h => (by cases h)
  case hl =>
    repeat (refine List.forall_mem_cons.2 ⟨?_, ?_⟩; first | exact isV.lasts _ | exact isD.lasts _ | exact isNV.lasts _ | exact isDV.lasts _ | exact isWV.lasts _ | exact isWC.lasts _ | exact isNR.lasts _ _ | exact isWR.lasts _ _ | exact isRow.lasts _ _ _ | exact isPtr.lasts _ _ _)
    exact fun _ h => (by cases h)

end Go.Proofs.YtphjcphcgnjogaaDoor
