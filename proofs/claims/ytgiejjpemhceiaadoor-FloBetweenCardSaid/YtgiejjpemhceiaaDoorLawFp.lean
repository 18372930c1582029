/-
  FloPowers: the walk.
-/
import Derived.Test.YtgiejjpemhceiaaDoorFlD
import Derived.Test.YtgiejjpemhceiaaDoorFlS
import Derived.Test.YtgiejjpemhceiaaDoorDyQ
import Derived.Test.YtgiejjpemhceiaaDoorLawDyA
namespace Go.Proofs.YtgiejjpemhceiaaDoor
set_option linter.unusedSimpArgs false
open Go.RowKit
namespace Fl
theorem stepV (v : Nat) (s : Bool) {r : Nat} (h : r < 9223372036854775808) (hv : wordB s r = v) (dir : Int) (u : Nat) (hu : stepW (decide (0 ≤ dir)) s r = u) (w : World) : Calls Tryd.prog 48 #[.float .f64 v, .int .i64 dir] w fun e w' => e = .returned (.float .f64 u) ∧ w = w' := by
  subst hv
  exact step_any s h dir u hu w
theorem bnd_word (s : Bool) (r : Nat) {N : Nat} (hN : 4000 ≤ N) (h : r ≤ INF) : Bnd N (fD s r) := by
  have h2 := inf_val
  unfold fD
  exact bnd_nrm (K := 53) (M := 2000) (by rw [sg_abs]; have := mant_lt r; omega) (by unfold expoW; omega) (by unfold expoW; omega) (by omega)
theorem ord_is (a b : Bool) (r s : Nat) (hr : r ≤ INF) (hs : s ≤ INF) (o : Ordering) (h : compare (sg a r) (sg b s) = o) : FloatKind.f64.format.order (wordB a r) (wordB b s) = some o := by
  show Ieee.double.order _ _ = _
  rw [ord_rung a b hr hs, h]
set_option maxHeartbeats 8000000 in
set_option maxRecDepth 100000 in
theorem fpow_out (e : Int) (w : World) (htab : Hid (Tab w)) (hT : Hid (Tab6 w)) (he : e < -1200 ∨ 1200 < e) : Calls Tryd.prog 10 #[.int .i64 e] w fun e w' => e = .returned (.bool true) ∧ Only [] w w' := by
  have HE := Lib.hid (DB.start w)
  rcases he with he | he
  · go_enter Tryd.func10, Tryd.ntmps10
    
    go_wp2_with fail
    (with_reducible refine (alive4_any _ (Lib.hid (htab.out.only HE.out.only)) (Lib.hid (hT.out.keep HE.out.only))).mono ?_)
    rintro e w5 ⟨rfl, ho⟩
    replace HE := Lib.hid (HE.out.step ho)
    clear ho
    skip
    go_wp2_with fail
    go_ret
    exact ⟨rfl, HE.out.only⟩
  · have he2 : ¬ e < -1200 := by omega
    go_enter Tryd.func10, Tryd.ntmps10
    
    go_wp2_with fail
    (with_reducible refine (alive4_any _ (Lib.hid (htab.out.only HE.out.only)) (Lib.hid (hT.out.keep HE.out.only))).mono ?_)
    rintro e w5 ⟨rfl, ho⟩
    replace HE := Lib.hid (HE.out.step ho)
    clear ho
    skip
    go_wp2_with fail
    go_ret
    exact ⟨rfl, HE.out.only⟩
set_option maxHeartbeats 8000000 in
set_option maxRecDepth 100000 in
theorem fpow_far (e : Int) (w : World) (htab : Hid (Tab w)) (hT : Hid (Tab6 w)) (he : -1200 ≤ e ∧ e ≤ 1200) (hc : 1023 < e) : Calls Tryd.prog 10 #[.int .i64 e] w fun e w' => e = .returned (.bool true) ∧ Only [] w w' := by
  have HE := Lib.hid (DB.start w)
  have hlo : ¬ e < -1200 := by omega
  have hhi : ¬ 1200 < e := by omega
  have HB1 : Hid (bitsN (1 : Int).natAbs ≤ 16777216) := bits_few (N := 1) (by decide) (by omega)
  obtain ⟨x, hx⟩ : ∃ x, nrm 1 e = x := ⟨_, rfl⟩
  have HX := Lib.hid hx
  obtain ⟨N, hN⟩ : ∃ N : Nat, N = 4000 := ⟨_, rfl⟩
  have BX : Hid (Bnd N x) := by rw [← hx]; exact bnd_nrm (K := 1) (M := 1200) (by decide) (by omega) (by omega) (by omega)
  have hN2 : N ≤ 4000 := by omega
  obtain ⟨u1, h1⟩ : ∃ u, wordB false (INF - 1) = u := ⟨_, rfl⟩
  obtain ⟨u2, h2⟩ : ∃ u, wordB false INF = u := ⟨_, rfl⟩
  have hu1 : Hid (flW (decide ((0 : Int) ≤ -1)) x = u1) := by rw [← hx]; exact ((pow_flW false e).1 hc).trans h1
  have hu2 : Hid (flW (decide ((0 : Int) ≤ 1)) x = u2) := by rw [← hx]; exact ((pow_flW true e).1 hc).trans h2
  obtain ⟨y, hy⟩ : ∃ y, fD false (INF - 1) = y := ⟨_, rfl⟩
  have HY := Lib.hid hy
  have HT1 : Hid (topD y = 1024) := by rw [← hy]; exact top_max
  have BY : Hid (Bnd N y) := by rw [← hy]; exact bnd_word _ _ (by omega) (by decide)
  have H1 := Lib.hid h1
  have HF2 := Lib.hid (show finB u2 = false by rw [← h2]; decide)
  have HL2 := Lib.hid (show u2 < 18446744073709551616 by rw [← h2]; decide)
  clear hx hN hy h1 h2 he
  go_enter Tryd.func10, Tryd.ntmps10
  
  go_wp2_with fail
  (with_reducible refine (alive4_any _ (Lib.hid (htab.out.only HE.out.only)) (Lib.hid (hT.out.keep HE.out.only))).mono ?_)
  rintro e w5 ⟨rfl, ho⟩
  replace HE := Lib.hid (HE.out.step ho)
  clear ho
  skip
  go_wp2_with fail
  (with_reducible refine (ofV_d 1 ⟨1, 0⟩ _ nrm_1 (Lib.hid (by omega)) (Lib.hid (hT.out.keep HE.out.only))).mono ?_)
  rintro e w5 ⟨s1, A1, k1, c1, rfl, -, -, hv, ho⟩
  replace HE := Lib.hid (HE.out.step ho)
  have HV1 : Hid (IV w5 (.agg #[.bool s1, .slice A1 k1 c1]) 1) := hv
  have hfl : (Instr.field 37 (.agg #[.bool s1, .slice A1 k1 c1, .int .i64 0]) 0).run Tryd.prog w5 = .ok (.agg #[.bool s1, .slice A1 k1 c1]) w5 := by kernel_rfl
  clear hv ho
  go_wp2_with fail
  (with_reducible refine (make_d HV1 HB1 (by omega) (by omega) (Lib.hid (hT.out.keep HE.out.only))).mono ?_)
  rintro e w6 ⟨s2, A2, k2, c2, rfl, -, -, hv, ho⟩
  rw [HX.out] at hv ⊢
  replace HE := Lib.hid ((HE.out.step ho).new hv)
  clear hv ho hfl HV1
  obtain ⟨i0, i1, i2, -, -, -⟩ := DB.cells HE 0 rfl
  go_upto_region 4 with fail
  clear i0 i1 i2
  apply wp_region_typed2 (by kernel_rfl) [isV _, isV _, isV _, isV _, isV _, isV _] [[], [0], [], [2], [1], [3]] (by kernel_rfl) (by kernel_rfl)
  case ho =>
    refine owes2_cons (fun wx hox => ?_) ?_
    · skip
      have he := Lib.hid (HE.out.step hox)
      obtain ⟨i0, i1, i2, -, -, -⟩ := DB.cells he 0 rfl
      clear he
      refine withs_plain rfl ?_
      simp only [withs, List.getElem?_cons_zero, List.getElem?_cons_succ, Option.bind, Option.getD]
      repeat (first | (with_reducible refine all_isV ?_) | (with_reducible refine all_isWC ?_; intro sx Ax kx cx hvx hwx) | (with_reducible refine all_isNR ?_; intro Ax kx cx hvx) | (with_reducible refine all_isNV ?_; intro Ax kx cx hvx) | (with_reducible refine all_isDV ?_; intro sx Ax kx cx hvx) | (with_reducible refine all_isWV ?_; intro sx Ax kx cx hvx) | (with_reducible refine all_isD ?_; intro sx Ax kx cx hvx hwx) | (with_reducible refine all_isRow ?_; intro gx' hbx) | (with_reducible refine all_isPtr ?_; intro gp' hbp hgp) | (with_reducible refine all_isRow1 ?_; intro gx' sr Ar kr cr hbx hvr))
      go_simp
      exact ⟨Only.refl _ _, isV.self _ _⟩
    refine owes2_cons (fun wx hox => ?_) ?_
    · skip
      have he := Lib.hid (HE.out.step hox)
      obtain ⟨i0, i1, i2, -, -, -⟩ := DB.cells he 0 rfl
      clear he
      refine withs_plain rfl ?_
      simp only [withs, List.getElem?_cons_zero, List.getElem?_cons_succ, Option.bind, Option.getD]
      repeat (first | (with_reducible refine all_isV ?_) | (with_reducible refine all_isWC ?_; intro sx Ax kx cx hvx hwx) | (with_reducible refine all_isNR ?_; intro Ax kx cx hvx) | (with_reducible refine all_isNV ?_; intro Ax kx cx hvx) | (with_reducible refine all_isDV ?_; intro sx Ax kx cx hvx) | (with_reducible refine all_isWV ?_; intro sx Ax kx cx hvx) | (with_reducible refine all_isD ?_; intro sx Ax kx cx hvx hwx) | (with_reducible refine all_isRow ?_; intro gx' hbx) | (with_reducible refine all_isPtr ?_; intro gp' hbp hgp) | (with_reducible refine all_isRow1 ?_; intro gx' sr Ar kr cr hbx hvr))
      go_simp
      (with_reducible exact grow_of (float_d (-1) u1 hu1.out (DB.dv (Lib.hid (HE.out.step hox)) 0 rfl) BX (by omega) (Lib.hid (hT.out.keep (HE.out.step hox).only))))
    refine owes2_cons (fun wx hox => ?_) ?_
    · skip
      have he := Lib.hid (HE.out.step hox)
      obtain ⟨i0, i1, i2, -, -, -⟩ := DB.cells he 0 rfl
      clear he
      refine withs_plain rfl ?_
      simp only [withs, List.getElem?_cons_zero, List.getElem?_cons_succ, Option.bind, Option.getD]
      repeat (first | (with_reducible refine all_isV ?_) | (with_reducible refine all_isWC ?_; intro sx Ax kx cx hvx hwx) | (with_reducible refine all_isNR ?_; intro Ax kx cx hvx) | (with_reducible refine all_isNV ?_; intro Ax kx cx hvx) | (with_reducible refine all_isDV ?_; intro sx Ax kx cx hvx) | (with_reducible refine all_isWV ?_; intro sx Ax kx cx hvx) | (with_reducible refine all_isD ?_; intro sx Ax kx cx hvx hwx) | (with_reducible refine all_isRow ?_; intro gx' hbx) | (with_reducible refine all_isPtr ?_; intro gp' hbp hgp) | (with_reducible refine all_isRow1 ?_; intro gx' sr Ar kr cr hbx hvr))
      go_simp
      exact ⟨Only.refl _ _, isV.self _ _⟩
    refine owes2_cons (fun wx hox => ?_) ?_
    · skip
      have he := Lib.hid (HE.out.step hox)
      obtain ⟨i0, i1, i2, -, -, -⟩ := DB.cells he 0 rfl
      clear he
      refine withs_plain rfl ?_
      simp only [withs, List.getElem?_cons_zero, List.getElem?_cons_succ, Option.bind, Option.getD]
      repeat (first | (with_reducible refine all_isV ?_) | (with_reducible refine all_isWC ?_; intro sx Ax kx cx hvx hwx) | (with_reducible refine all_isNR ?_; intro Ax kx cx hvx) | (with_reducible refine all_isNV ?_; intro Ax kx cx hvx) | (with_reducible refine all_isDV ?_; intro sx Ax kx cx hvx) | (with_reducible refine all_isWV ?_; intro sx Ax kx cx hvx) | (with_reducible refine all_isD ?_; intro sx Ax kx cx hvx hwx) | (with_reducible refine all_isRow ?_; intro gx' hbx) | (with_reducible refine all_isPtr ?_; intro gp' hbp hgp) | (with_reducible refine all_isRow1 ?_; intro gx' sr Ar kr cr hbx hvr))
      go_simp
      (with_reducible exact grow_of (float_d 1 u2 hu2.out (DB.dv (Lib.hid (HE.out.step hox)) 0 rfl) BX (by omega) (Lib.hid (hT.out.keep (HE.out.step hox).only))))
    refine owes2_cons (fun wx hox => ?_) ?_
    · skip
      skip
      refine withs_plain rfl ?_
      simp only [withs, List.getElem?_cons_zero, List.getElem?_cons_succ, Option.bind, Option.getD]
      repeat (first | (with_reducible refine all_isV ?_) | (with_reducible refine all_isWC ?_; intro sx Ax kx cx hvx hwx) | (with_reducible refine all_isNR ?_; intro Ax kx cx hvx) | (with_reducible refine all_isNV ?_; intro Ax kx cx hvx) | (with_reducible refine all_isDV ?_; intro sx Ax kx cx hvx) | (with_reducible refine all_isWV ?_; intro sx Ax kx cx hvx) | (with_reducible refine all_isD ?_; intro sx Ax kx cx hvx hwx) | (with_reducible refine all_isRow ?_; intro gx' hbx) | (with_reducible refine all_isPtr ?_; intro gp' hbp hgp) | (with_reducible refine all_isRow1 ?_; intro gx' sr Ar kr cr hbx hvr))
      go_simp
      exact ⟨Only.refl _ _, isV.self _ _⟩
    refine owes2_cons (fun wx hox => ?_) ?_
    · skip
      skip
      refine withs_plain rfl ?_
      simp only [withs, List.getElem?_cons_zero, List.getElem?_cons_succ, Option.bind, Option.getD]
      repeat (first | (with_reducible refine all_isV ?_) | (with_reducible refine all_isWC ?_; intro sx Ax kx cx hvx hwx) | (with_reducible refine all_isNR ?_; intro Ax kx cx hvx) | (with_reducible refine all_isNV ?_; intro Ax kx cx hvx) | (with_reducible refine all_isDV ?_; intro sx Ax kx cx hvx) | (with_reducible refine all_isWV ?_; intro sx Ax kx cx hvx) | (with_reducible refine all_isD ?_; intro sx Ax kx cx hvx hwx) | (with_reducible refine all_isRow ?_; intro gx' hbx) | (with_reducible refine all_isPtr ?_; intro gp' hbp hgp) | (with_reducible refine all_isRow1 ?_; intro gx' sr Ar kr cr hbx hvr))
      go_simp
      exact ⟨Only.refl _ _, isV.self _ _⟩
    exact owes2_nil
  case he =>
    intro wx hox
    refine withs_of (by simp only [List.length, List.range, List.range.loop]; exact rfl) ?_
    simp only [withs, List.getElem?_cons_zero, List.getElem?_cons_succ, Option.bind, Option.getD]
    repeat (first | (with_reducible refine all_isV ?_) | (with_reducible refine all_isWC ?_; intro sx Ax kx cx hvx hwx) | (with_reducible refine all_isNR ?_; intro Ax kx cx hvx) | (with_reducible refine all_isNV ?_; intro Ax kx cx hvx) | (with_reducible refine all_isDV ?_; intro sx Ax kx cx hvx) | (with_reducible refine all_isWV ?_; intro sx Ax kx cx hvx) | (with_reducible refine all_isD ?_; intro sx Ax kx cx hvx hwx) | (with_reducible refine all_isRow ?_; intro gx' hbx) | (with_reducible refine all_isPtr ?_; intro gp' hbp hgp) | (with_reducible refine all_isRow1 ?_; intro gx' sr Ar kr cr hbx hvr))
    go_simp
    replace HE := Lib.hid (HE.out.step hox)
    clear hox
    go_wp2_with fail
    (with_reducible refine (fl_dyadV u1 false y (by decide) H1.out HY.out _ (Lib.hid (hT.out.keep HE.out.only))).mono ?_)
    rintro e w5 ⟨s7, A7, k7, c7, rfl, -, -, hv, ho⟩
    replace HE := Lib.hid ((HE.out.step ho).new hv)
    clear hv ho
    obtain ⟨i0, i1, i2, -, -, -⟩ := DB.cells HE 0 rfl
    go_wp2_with fail
    (with_reducible refine (topV_d 1024 (DB.dv HE 0 rfl) BY (by omega) HT1.out).mono ?_)
    rintro e w5 ⟨rfl, ho⟩
    replace HE := Lib.hid (HE.out.step ho)
    clear ho
    clear i0 i1 i2
    go_wp2_with fail
    (with_reducible refine (finite_any u2 HL2.out _).mono ?_)
    rw [HF2.out]
    rintro e w5 ⟨rfl, rfl⟩
    go_wp2_with fail
    go_ret
    exact ⟨rfl, HE.out.only⟩
  case hl =>
    repeat (refine List.forall_mem_cons.2 ⟨?_, ?_⟩; first | exact isV.lasts _ | exact isD.lasts _ | exact isNV.lasts _ | exact isDV.lasts _ | exact isWV.lasts _ | exact isWC.lasts _ | exact isNR.lasts _ _ | exact isWR.lasts _ _ | exact isRow.lasts _ _ _ | exact isPtr.lasts _ _ _ | exact isRow1.lasts _)
    exact fun _ h => (by cases h)
set_option maxHeartbeats 8000000 in
set_option maxRecDepth 100000 in
theorem fpow_low (e : Int) (w : World) (htab : Hid (Tab w)) (hT : Hid (Tab6 w)) (he : -1200 ≤ e ∧ e ≤ 1200) (hc : e < -1074) : Calls Tryd.prog 10 #[.int .i64 e] w fun e w' => e = .returned (.bool true) ∧ Only [] w w' := by
  have HE := Lib.hid (DB.start w)
  have hlo : ¬ e < -1200 := by omega
  have hhi : ¬ 1200 < e := by omega
  have HB1 : Hid (bitsN (1 : Int).natAbs ≤ 16777216) := bits_few (N := 1) (by decide) (by omega)
  obtain ⟨x, hx⟩ : ∃ x, nrm 1 e = x := ⟨_, rfl⟩
  have HX := Lib.hid hx
  obtain ⟨N, hN⟩ : ∃ N : Nat, N = 4000 := ⟨_, rfl⟩
  have BX : Hid (Bnd N x) := by rw [← hx]; exact bnd_nrm (K := 1) (M := 1200) (by decide) (by omega) (by omega) (by omega)
  have hN2 : N ≤ 4000 := by omega
  have hc2 : ¬ 1023 < e := by omega
  obtain ⟨u1, h1⟩ : ∃ u, wordB false 0 = u := ⟨_, rfl⟩
  obtain ⟨u2, h2⟩ : ∃ u, wordB false 1 = u := ⟨_, rfl⟩
  have hu1 : Hid (flW (decide ((0 : Int) ≤ -1)) x = u1) := by rw [← hx]; exact ((pow_flW false e).2.1 hc).trans h1
  have hu2 : Hid (flW (decide ((0 : Int) ≤ 1)) x = u2) := by rw [← hx]; exact ((pow_flW true e).2.1 hc).trans h2
  obtain ⟨y, hy⟩ : ∃ y, fD false 0 = y := ⟨_, rfl⟩
  have HY := Lib.hid hy
  have H1 := Lib.hid h1
  have o1 : FloatKind.f64.format.order u1 0 = some .eq := by rw [← h1]; exact ord_self false (by decide)
  have o2 : FloatKind.f64.format.order u2 0 = some .gt := by rw [← h2]; exact ord_is false false 1 0 (by decide) (by decide) _ (by decide)
  have o3 : FloatKind.f64.format.order u2 u2 = some .eq := by rw [← h2]; exact ord_self false (by decide)
  have HS : Hid (stepW (decide ((0 : Int) ≤ 1)) false 0 = u2) := by show _ = _; rw [← h2]; decide
  clear hx hN hy h1 h2 he
  go_enter Tryd.func10, Tryd.ntmps10
  
  go_wp2_with fail
  (with_reducible refine (alive4_any _ (Lib.hid (htab.out.only HE.out.only)) (Lib.hid (hT.out.keep HE.out.only))).mono ?_)
  rintro e w5 ⟨rfl, ho⟩
  replace HE := Lib.hid (HE.out.step ho)
  clear ho
  skip
  go_wp2_with fail
  (with_reducible refine (ofV_d 1 ⟨1, 0⟩ _ nrm_1 (Lib.hid (by omega)) (Lib.hid (hT.out.keep HE.out.only))).mono ?_)
  rintro e w5 ⟨s1, A1, k1, c1, rfl, -, -, hv, ho⟩
  replace HE := Lib.hid (HE.out.step ho)
  have HV1 : Hid (IV w5 (.agg #[.bool s1, .slice A1 k1 c1]) 1) := hv
  have hfl : (Instr.field 37 (.agg #[.bool s1, .slice A1 k1 c1, .int .i64 0]) 0).run Tryd.prog w5 = .ok (.agg #[.bool s1, .slice A1 k1 c1]) w5 := by kernel_rfl
  clear hv ho
  go_wp2_with fail
  (with_reducible refine (make_d HV1 HB1 (by omega) (by omega) (Lib.hid (hT.out.keep HE.out.only))).mono ?_)
  rintro e w6 ⟨s2, A2, k2, c2, rfl, -, -, hv, ho⟩
  rw [HX.out] at hv ⊢
  replace HE := Lib.hid ((HE.out.step ho).new hv)
  clear hv ho hfl HV1
  obtain ⟨i0, i1, i2, -, -, -⟩ := DB.cells HE 0 rfl
  go_upto_region 4 with fail
  clear i0 i1 i2
  apply wp_region_typed2 (by kernel_rfl) [isV _, isV _, isV _, isV _, isV _, isV _] [[], [0], [], [2], [1], [3]] (by kernel_rfl) (by kernel_rfl)
  case ho =>
    refine owes2_cons (fun wx hox => ?_) ?_
    · skip
      have he := Lib.hid (HE.out.step hox)
      obtain ⟨i0, i1, i2, -, -, -⟩ := DB.cells he 0 rfl
      clear he
      refine withs_plain rfl ?_
      simp only [withs, List.getElem?_cons_zero, List.getElem?_cons_succ, Option.bind, Option.getD]
      repeat (first | (with_reducible refine all_isV ?_) | (with_reducible refine all_isWC ?_; intro sx Ax kx cx hvx hwx) | (with_reducible refine all_isNR ?_; intro Ax kx cx hvx) | (with_reducible refine all_isNV ?_; intro Ax kx cx hvx) | (with_reducible refine all_isDV ?_; intro sx Ax kx cx hvx) | (with_reducible refine all_isWV ?_; intro sx Ax kx cx hvx) | (with_reducible refine all_isD ?_; intro sx Ax kx cx hvx hwx) | (with_reducible refine all_isRow ?_; intro gx' hbx) | (with_reducible refine all_isPtr ?_; intro gp' hbp hgp) | (with_reducible refine all_isRow1 ?_; intro gx' sr Ar kr cr hbx hvr))
      go_simp
      exact ⟨Only.refl _ _, isV.self _ _⟩
    refine owes2_cons (fun wx hox => ?_) ?_
    · skip
      have he := Lib.hid (HE.out.step hox)
      obtain ⟨i0, i1, i2, -, -, -⟩ := DB.cells he 0 rfl
      clear he
      refine withs_plain rfl ?_
      simp only [withs, List.getElem?_cons_zero, List.getElem?_cons_succ, Option.bind, Option.getD]
      repeat (first | (with_reducible refine all_isV ?_) | (with_reducible refine all_isWC ?_; intro sx Ax kx cx hvx hwx) | (with_reducible refine all_isNR ?_; intro Ax kx cx hvx) | (with_reducible refine all_isNV ?_; intro Ax kx cx hvx) | (with_reducible refine all_isDV ?_; intro sx Ax kx cx hvx) | (with_reducible refine all_isWV ?_; intro sx Ax kx cx hvx) | (with_reducible refine all_isD ?_; intro sx Ax kx cx hvx hwx) | (with_reducible refine all_isRow ?_; intro gx' hbx) | (with_reducible refine all_isPtr ?_; intro gp' hbp hgp) | (with_reducible refine all_isRow1 ?_; intro gx' sr Ar kr cr hbx hvr))
      go_simp
      (with_reducible exact grow_of (float_d (-1) u1 hu1.out (DB.dv (Lib.hid (HE.out.step hox)) 0 rfl) BX (by omega) (Lib.hid (hT.out.keep (HE.out.step hox).only))))
    refine owes2_cons (fun wx hox => ?_) ?_
    · skip
      have he := Lib.hid (HE.out.step hox)
      obtain ⟨i0, i1, i2, -, -, -⟩ := DB.cells he 0 rfl
      clear he
      refine withs_plain rfl ?_
      simp only [withs, List.getElem?_cons_zero, List.getElem?_cons_succ, Option.bind, Option.getD]
      repeat (first | (with_reducible refine all_isV ?_) | (with_reducible refine all_isWC ?_; intro sx Ax kx cx hvx hwx) | (with_reducible refine all_isNR ?_; intro Ax kx cx hvx) | (with_reducible refine all_isNV ?_; intro Ax kx cx hvx) | (with_reducible refine all_isDV ?_; intro sx Ax kx cx hvx) | (with_reducible refine all_isWV ?_; intro sx Ax kx cx hvx) | (with_reducible refine all_isD ?_; intro sx Ax kx cx hvx hwx) | (with_reducible refine all_isRow ?_; intro gx' hbx) | (with_reducible refine all_isPtr ?_; intro gp' hbp hgp) | (with_reducible refine all_isRow1 ?_; intro gx' sr Ar kr cr hbx hvr))
      go_simp
      exact ⟨Only.refl _ _, isV.self _ _⟩
    refine owes2_cons (fun wx hox => ?_) ?_
    · skip
      have he := Lib.hid (HE.out.step hox)
      obtain ⟨i0, i1, i2, -, -, -⟩ := DB.cells he 0 rfl
      clear he
      refine withs_plain rfl ?_
      simp only [withs, List.getElem?_cons_zero, List.getElem?_cons_succ, Option.bind, Option.getD]
      repeat (first | (with_reducible refine all_isV ?_) | (with_reducible refine all_isWC ?_; intro sx Ax kx cx hvx hwx) | (with_reducible refine all_isNR ?_; intro Ax kx cx hvx) | (with_reducible refine all_isNV ?_; intro Ax kx cx hvx) | (with_reducible refine all_isDV ?_; intro sx Ax kx cx hvx) | (with_reducible refine all_isWV ?_; intro sx Ax kx cx hvx) | (with_reducible refine all_isD ?_; intro sx Ax kx cx hvx hwx) | (with_reducible refine all_isRow ?_; intro gx' hbx) | (with_reducible refine all_isPtr ?_; intro gp' hbp hgp) | (with_reducible refine all_isRow1 ?_; intro gx' sr Ar kr cr hbx hvr))
      go_simp
      (with_reducible exact grow_of (float_d 1 u2 hu2.out (DB.dv (Lib.hid (HE.out.step hox)) 0 rfl) BX (by omega) (Lib.hid (hT.out.keep (HE.out.step hox).only))))
    refine owes2_cons (fun wx hox => ?_) ?_
    · skip
      skip
      refine withs_plain rfl ?_
      simp only [withs, List.getElem?_cons_zero, List.getElem?_cons_succ, Option.bind, Option.getD]
      repeat (first | (with_reducible refine all_isV ?_) | (with_reducible refine all_isWC ?_; intro sx Ax kx cx hvx hwx) | (with_reducible refine all_isNR ?_; intro Ax kx cx hvx) | (with_reducible refine all_isNV ?_; intro Ax kx cx hvx) | (with_reducible refine all_isDV ?_; intro sx Ax kx cx hvx) | (with_reducible refine all_isWV ?_; intro sx Ax kx cx hvx) | (with_reducible refine all_isD ?_; intro sx Ax kx cx hvx hwx) | (with_reducible refine all_isRow ?_; intro gx' hbx) | (with_reducible refine all_isPtr ?_; intro gp' hbp hgp) | (with_reducible refine all_isRow1 ?_; intro gx' sr Ar kr cr hbx hvr))
      go_simp
      exact ⟨Only.refl _ _, isV.self _ _⟩
    refine owes2_cons (fun wx hox => ?_) ?_
    · skip
      skip
      refine withs_plain rfl ?_
      simp only [withs, List.getElem?_cons_zero, List.getElem?_cons_succ, Option.bind, Option.getD]
      repeat (first | (with_reducible refine all_isV ?_) | (with_reducible refine all_isWC ?_; intro sx Ax kx cx hvx hwx) | (with_reducible refine all_isNR ?_; intro Ax kx cx hvx) | (with_reducible refine all_isNV ?_; intro Ax kx cx hvx) | (with_reducible refine all_isDV ?_; intro sx Ax kx cx hvx) | (with_reducible refine all_isWV ?_; intro sx Ax kx cx hvx) | (with_reducible refine all_isD ?_; intro sx Ax kx cx hvx hwx) | (with_reducible refine all_isRow ?_; intro gx' hbx) | (with_reducible refine all_isPtr ?_; intro gp' hbp hgp) | (with_reducible refine all_isRow1 ?_; intro gx' sr Ar kr cr hbx hvr))
      go_simp
      exact ⟨Only.refl _ _, isV.self _ _⟩
    exact owes2_nil
  case he =>
    intro wx hox
    refine withs_of (by simp only [List.length, List.range, List.range.loop]; exact rfl) ?_
    simp only [withs, List.getElem?_cons_zero, List.getElem?_cons_succ, Option.bind, Option.getD]
    repeat (first | (with_reducible refine all_isV ?_) | (with_reducible refine all_isWC ?_; intro sx Ax kx cx hvx hwx) | (with_reducible refine all_isNR ?_; intro Ax kx cx hvx) | (with_reducible refine all_isNV ?_; intro Ax kx cx hvx) | (with_reducible refine all_isDV ?_; intro sx Ax kx cx hvx) | (with_reducible refine all_isWV ?_; intro sx Ax kx cx hvx) | (with_reducible refine all_isD ?_; intro sx Ax kx cx hvx hwx) | (with_reducible refine all_isRow ?_; intro gx' hbx) | (with_reducible refine all_isPtr ?_; intro gp' hbp hgp) | (with_reducible refine all_isRow1 ?_; intro gx' sr Ar kr cr hbx hvr))
    go_simp
    replace HE := Lib.hid (HE.out.step hox)
    clear hox
    go_wp2_with fail
    (with_reducible refine (fl_dyadV u1 false y (by decide) H1.out HY.out _ (Lib.hid (hT.out.keep HE.out.only))).mono ?_)
    rintro e w5 ⟨s7, A7, k7, c7, rfl, -, -, hv, ho⟩
    replace HE := Lib.hid ((HE.out.step ho).new hv)
    clear hv ho
    go_wp2_with fail
    (with_reducible refine (stepV 0 false (r := 0) (by decide) rfl 1 u2 HS.out _).mono ?_)
    rintro e w5 ⟨rfl, rfl⟩
    go_wp2_with fail
    go_ret
    exact ⟨rfl, HE.out.only⟩
  case hl =>
    repeat (refine List.forall_mem_cons.2 ⟨?_, ?_⟩; first | exact isV.lasts _ | exact isD.lasts _ | exact isNV.lasts _ | exact isDV.lasts _ | exact isWV.lasts _ | exact isWC.lasts _ | exact isNR.lasts _ _ | exact isWR.lasts _ _ | exact isRow.lasts _ _ _ | exact isPtr.lasts _ _ _ | exact isRow1.lasts _)
    exact fun _ h => (by cases h)
set_option maxHeartbeats 8000000 in
set_option maxRecDepth 100000 in
theorem fpow_mid (e : Int) (w : World) (htab : Hid (Tab w)) (hT : Hid (Tab6 w)) (he : -1200 ≤ e ∧ e ≤ 1200) (hc0 : -1074 ≤ e) (hc : e ≤ 1023) : Calls Tryd.prog 10 #[.int .i64 e] w fun e w' => e = .returned (.bool true) ∧ Only [] w w' := by
  have HE := Lib.hid (DB.start w)
  have hlo : ¬ e < -1200 := by omega
  have hhi : ¬ 1200 < e := by omega
  have HB1 : Hid (bitsN (1 : Int).natAbs ≤ 16777216) := bits_few (N := 1) (by decide) (by omega)
  obtain ⟨x, hx⟩ : ∃ x, nrm 1 e = x := ⟨_, rfl⟩
  have HX := Lib.hid hx
  obtain ⟨N, hN⟩ : ∃ N : Nat, N = 4000 := ⟨_, rfl⟩
  have BX : Hid (Bnd N x) := by rw [← hx]; exact bnd_nrm (K := 1) (M := 1200) (by decide) (by omega) (by omega) (by omega)
  have hN2 : N ≤ 4000 := by omega
  have hc2 : ¬ 1023 < e := by omega
  have hc3 : ¬ e < -1074 := by omega
  obtain ⟨g, g1, g2, g3⟩ := (pow_flW false e).2.2 hc0 hc
  obtain ⟨g', g1', g2', g3'⟩ := (pow_flW true e).2.2 hc0 hc
  have hgg : g' = g := by
    have h5 := ru_le.1 (show ru g' ≤ ru g by grind)
    have h6 := ru_le.1 (show ru g ≤ ru g' by grind)
    omega
  subst hgg
  obtain ⟨u1, h1⟩ : ∃ u, wordB false g' = u := ⟨_, rfl⟩
  have hu1 : Hid (flW (decide ((0 : Int) ≤ -1)) x = u1) := by rw [← hx]; exact g3.trans h1
  have hu2 : Hid (flW (decide ((0 : Int) ≤ 1)) x = u1) := by rw [← hx]; exact g3'.trans h1
  obtain ⟨y, hy⟩ : ∃ y, fD false g' = y := ⟨_, rfl⟩
  have HY := Lib.hid hy
  have H1 := Lib.hid h1
  have HG := Lib.hid g2
  have o1 : FloatKind.f64.format.order u1 u1 = some .eq := by rw [← h1]; exact ord_self false (by omega)
  have BY : Hid (Bnd N y) := by rw [← hy]; exact bnd_word _ _ (by omega) (by omega)
  have HC : Hid (cmpQ y.q x.q = 0) := by
    show _ = _
    apply cmpQ_eq
    rw [← hy, ← hx, pow_q, fD_val]
    exact g1
  clear hx hN hy h1 he g1 g2 g3 g1' g2' g3' hc0
  go_enter Tryd.func10, Tryd.ntmps10
  
  go_wp2_with fail
  (with_reducible refine (alive4_any _ (Lib.hid (htab.out.only HE.out.only)) (Lib.hid (hT.out.keep HE.out.only))).mono ?_)
  rintro e w5 ⟨rfl, ho⟩
  replace HE := Lib.hid (HE.out.step ho)
  clear ho
  skip
  go_wp2_with fail
  (with_reducible refine (ofV_d 1 ⟨1, 0⟩ _ nrm_1 (Lib.hid (by omega)) (Lib.hid (hT.out.keep HE.out.only))).mono ?_)
  rintro e w5 ⟨s1, A1, k1, c1, rfl, -, -, hv, ho⟩
  replace HE := Lib.hid (HE.out.step ho)
  have HV1 : Hid (IV w5 (.agg #[.bool s1, .slice A1 k1 c1]) 1) := hv
  have hfl : (Instr.field 37 (.agg #[.bool s1, .slice A1 k1 c1, .int .i64 0]) 0).run Tryd.prog w5 = .ok (.agg #[.bool s1, .slice A1 k1 c1]) w5 := by kernel_rfl
  clear hv ho
  go_wp2_with fail
  (with_reducible refine (make_d HV1 HB1 (by omega) (by omega) (Lib.hid (hT.out.keep HE.out.only))).mono ?_)
  rintro e w6 ⟨s2, A2, k2, c2, rfl, -, -, hv, ho⟩
  rw [HX.out] at hv ⊢
  replace HE := Lib.hid ((HE.out.step ho).new hv)
  clear hv ho hfl HV1
  obtain ⟨i0, i1, i2, -, -, -⟩ := DB.cells HE 0 rfl
  go_upto_region 4 with fail
  clear i0 i1 i2
  apply wp_region_typed2 (by kernel_rfl) [isV _, isV _, isV _, isV _, isV _, isV _] [[], [0], [], [2], [1], [3]] (by kernel_rfl) (by kernel_rfl)
  case ho =>
    refine owes2_cons (fun wx hox => ?_) ?_
    · skip
      have he := Lib.hid (HE.out.step hox)
      obtain ⟨i0, i1, i2, -, -, -⟩ := DB.cells he 0 rfl
      clear he
      refine withs_plain rfl ?_
      simp only [withs, List.getElem?_cons_zero, List.getElem?_cons_succ, Option.bind, Option.getD]
      repeat (first | (with_reducible refine all_isV ?_) | (with_reducible refine all_isWC ?_; intro sx Ax kx cx hvx hwx) | (with_reducible refine all_isNR ?_; intro Ax kx cx hvx) | (with_reducible refine all_isNV ?_; intro Ax kx cx hvx) | (with_reducible refine all_isDV ?_; intro sx Ax kx cx hvx) | (with_reducible refine all_isWV ?_; intro sx Ax kx cx hvx) | (with_reducible refine all_isD ?_; intro sx Ax kx cx hvx hwx) | (with_reducible refine all_isRow ?_; intro gx' hbx) | (with_reducible refine all_isPtr ?_; intro gp' hbp hgp) | (with_reducible refine all_isRow1 ?_; intro gx' sr Ar kr cr hbx hvr))
      go_simp
      exact ⟨Only.refl _ _, isV.self _ _⟩
    refine owes2_cons (fun wx hox => ?_) ?_
    · skip
      have he := Lib.hid (HE.out.step hox)
      obtain ⟨i0, i1, i2, -, -, -⟩ := DB.cells he 0 rfl
      clear he
      refine withs_plain rfl ?_
      simp only [withs, List.getElem?_cons_zero, List.getElem?_cons_succ, Option.bind, Option.getD]
      repeat (first | (with_reducible refine all_isV ?_) | (with_reducible refine all_isWC ?_; intro sx Ax kx cx hvx hwx) | (with_reducible refine all_isNR ?_; intro Ax kx cx hvx) | (with_reducible refine all_isNV ?_; intro Ax kx cx hvx) | (with_reducible refine all_isDV ?_; intro sx Ax kx cx hvx) | (with_reducible refine all_isWV ?_; intro sx Ax kx cx hvx) | (with_reducible refine all_isD ?_; intro sx Ax kx cx hvx hwx) | (with_reducible refine all_isRow ?_; intro gx' hbx) | (with_reducible refine all_isPtr ?_; intro gp' hbp hgp) | (with_reducible refine all_isRow1 ?_; intro gx' sr Ar kr cr hbx hvr))
      go_simp
      (with_reducible exact grow_of (float_d (-1) u1 hu1.out (DB.dv (Lib.hid (HE.out.step hox)) 0 rfl) BX (by omega) (Lib.hid (hT.out.keep (HE.out.step hox).only))))
    refine owes2_cons (fun wx hox => ?_) ?_
    · skip
      have he := Lib.hid (HE.out.step hox)
      obtain ⟨i0, i1, i2, -, -, -⟩ := DB.cells he 0 rfl
      clear he
      refine withs_plain rfl ?_
      simp only [withs, List.getElem?_cons_zero, List.getElem?_cons_succ, Option.bind, Option.getD]
      repeat (first | (with_reducible refine all_isV ?_) | (with_reducible refine all_isWC ?_; intro sx Ax kx cx hvx hwx) | (with_reducible refine all_isNR ?_; intro Ax kx cx hvx) | (with_reducible refine all_isNV ?_; intro Ax kx cx hvx) | (with_reducible refine all_isDV ?_; intro sx Ax kx cx hvx) | (with_reducible refine all_isWV ?_; intro sx Ax kx cx hvx) | (with_reducible refine all_isD ?_; intro sx Ax kx cx hvx hwx) | (with_reducible refine all_isRow ?_; intro gx' hbx) | (with_reducible refine all_isPtr ?_; intro gp' hbp hgp) | (with_reducible refine all_isRow1 ?_; intro gx' sr Ar kr cr hbx hvr))
      go_simp
      exact ⟨Only.refl _ _, isV.self _ _⟩
    refine owes2_cons (fun wx hox => ?_) ?_
    · skip
      have he := Lib.hid (HE.out.step hox)
      obtain ⟨i0, i1, i2, -, -, -⟩ := DB.cells he 0 rfl
      clear he
      refine withs_plain rfl ?_
      simp only [withs, List.getElem?_cons_zero, List.getElem?_cons_succ, Option.bind, Option.getD]
      repeat (first | (with_reducible refine all_isV ?_) | (with_reducible refine all_isWC ?_; intro sx Ax kx cx hvx hwx) | (with_reducible refine all_isNR ?_; intro Ax kx cx hvx) | (with_reducible refine all_isNV ?_; intro Ax kx cx hvx) | (with_reducible refine all_isDV ?_; intro sx Ax kx cx hvx) | (with_reducible refine all_isWV ?_; intro sx Ax kx cx hvx) | (with_reducible refine all_isD ?_; intro sx Ax kx cx hvx hwx) | (with_reducible refine all_isRow ?_; intro gx' hbx) | (with_reducible refine all_isPtr ?_; intro gp' hbp hgp) | (with_reducible refine all_isRow1 ?_; intro gx' sr Ar kr cr hbx hvr))
      go_simp
      (with_reducible exact grow_of (float_d 1 u1 hu2.out (DB.dv (Lib.hid (HE.out.step hox)) 0 rfl) BX (by omega) (Lib.hid (hT.out.keep (HE.out.step hox).only))))
    refine owes2_cons (fun wx hox => ?_) ?_
    · skip
      skip
      refine withs_plain rfl ?_
      simp only [withs, List.getElem?_cons_zero, List.getElem?_cons_succ, Option.bind, Option.getD]
      repeat (first | (with_reducible refine all_isV ?_) | (with_reducible refine all_isWC ?_; intro sx Ax kx cx hvx hwx) | (with_reducible refine all_isNR ?_; intro Ax kx cx hvx) | (with_reducible refine all_isNV ?_; intro Ax kx cx hvx) | (with_reducible refine all_isDV ?_; intro sx Ax kx cx hvx) | (with_reducible refine all_isWV ?_; intro sx Ax kx cx hvx) | (with_reducible refine all_isD ?_; intro sx Ax kx cx hvx hwx) | (with_reducible refine all_isRow ?_; intro gx' hbx) | (with_reducible refine all_isPtr ?_; intro gp' hbp hgp) | (with_reducible refine all_isRow1 ?_; intro gx' sr Ar kr cr hbx hvr))
      go_simp
      exact ⟨Only.refl _ _, isV.self _ _⟩
    refine owes2_cons (fun wx hox => ?_) ?_
    · skip
      skip
      refine withs_plain rfl ?_
      simp only [withs, List.getElem?_cons_zero, List.getElem?_cons_succ, Option.bind, Option.getD]
      repeat (first | (with_reducible refine all_isV ?_) | (with_reducible refine all_isWC ?_; intro sx Ax kx cx hvx hwx) | (with_reducible refine all_isNR ?_; intro Ax kx cx hvx) | (with_reducible refine all_isNV ?_; intro Ax kx cx hvx) | (with_reducible refine all_isDV ?_; intro sx Ax kx cx hvx) | (with_reducible refine all_isWV ?_; intro sx Ax kx cx hvx) | (with_reducible refine all_isD ?_; intro sx Ax kx cx hvx hwx) | (with_reducible refine all_isRow ?_; intro gx' hbx) | (with_reducible refine all_isPtr ?_; intro gp' hbp hgp) | (with_reducible refine all_isRow1 ?_; intro gx' sr Ar kr cr hbx hvr))
      go_simp
      exact ⟨Only.refl _ _, isV.self _ _⟩
    exact owes2_nil
  case he =>
    intro wx hox
    refine withs_of (by simp only [List.length, List.range, List.range.loop]; exact rfl) ?_
    simp only [withs, List.getElem?_cons_zero, List.getElem?_cons_succ, Option.bind, Option.getD]
    repeat (first | (with_reducible refine all_isV ?_) | (with_reducible refine all_isWC ?_; intro sx Ax kx cx hvx hwx) | (with_reducible refine all_isNR ?_; intro Ax kx cx hvx) | (with_reducible refine all_isNV ?_; intro Ax kx cx hvx) | (with_reducible refine all_isDV ?_; intro sx Ax kx cx hvx) | (with_reducible refine all_isWV ?_; intro sx Ax kx cx hvx) | (with_reducible refine all_isD ?_; intro sx Ax kx cx hvx hwx) | (with_reducible refine all_isRow ?_; intro gx' hbx) | (with_reducible refine all_isPtr ?_; intro gp' hbp hgp) | (with_reducible refine all_isRow1 ?_; intro gx' sr Ar kr cr hbx hvr))
    go_simp
    replace HE := Lib.hid (HE.out.step hox)
    clear hox
    go_wp2_with fail
    (with_reducible refine (fl_dyadV u1 false y HG.out H1.out HY.out _ (Lib.hid (hT.out.keep HE.out.only))).mono ?_)
    rintro e w5 ⟨s7, A7, k7, c7, rfl, -, -, hv, ho⟩
    replace HE := Lib.hid ((HE.out.step ho).new hv)
    clear hv ho
    obtain ⟨i0, i1, i2, -, -, -⟩ := DB.cells HE 0 rfl
    obtain ⟨j0, j1, j2, -, -, -⟩ := DB.cells HE 1 rfl
    go_wp2_with fail
    (with_reducible refine (cmpV_d (x := y) (y := x) 0 (DB.dv HE 0 rfl) (DB.dv HE 1 rfl) BY BX (by omega) HC.out).mono ?_)
    rintro e w5 ⟨rfl, ho⟩
    replace HE := Lib.hid (HE.out.step ho)
    clear ho
    clear i0 i1 i2 j0 j1 j2
    go_wp2_with fail
    go_ret
    exact ⟨rfl, HE.out.only⟩
  case hl =>
    repeat (refine List.forall_mem_cons.2 ⟨?_, ?_⟩; first | exact isV.lasts _ | exact isD.lasts _ | exact isNV.lasts _ | exact isDV.lasts _ | exact isWV.lasts _ | exact isWC.lasts _ | exact isNR.lasts _ _ | exact isWR.lasts _ _ | exact isRow.lasts _ _ _ | exact isPtr.lasts _ _ _ | exact isRow1.lasts _)
    exact fun _ h => (by cases h)
theorem floPowers_any (e : Int) (w : World) (_ : (Lit.int .i64 e).wf = true) (htab : Tab w) (hT : Tab6 w) : Calls Tryd.prog 10 #[.int .i64 e] w fun e w' => e = .returned (.bool true) ∧ Only [] w w' := by
  by_cases h : e < -1200 ∨ 1200 < e
  · exact fpow_out e w (Lib.hid htab) (Lib.hid hT) h
  · by_cases h1 : 1023 < e
    · exact fpow_far e w (Lib.hid htab) (Lib.hid hT) (by omega) h1
    · by_cases h2 : e < -1074
      · exact fpow_low e w (Lib.hid htab) (Lib.hid hT) (by omega) h2
      · exact fpow_mid e w (Lib.hid htab) (Lib.hid hT) (by omega) (by omega) (by omega)

end Fl
end Go.Proofs.YtgiejjpemhceiaaDoor
