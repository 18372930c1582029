/-
  FloBetween: the walk.
-/
import Derived.Test.YtgiejjpemhceiaaDoorFlD
import Derived.Test.YtgiejjpemhceiaaDoorFlS
import Derived.Test.YtgiejjpemhceiaaDoorDyQ
import Derived.Test.YtgiejjpemhceiaaDoorLawFp
import Derived.Test.YtgiejjpemhceiaaDoorDyN
namespace Go.Proofs.YtgiejjpemhceiaaDoor
set_option linter.unusedSimpArgs false
open Go.RowKit
namespace Fl
theorem fl_dyadA (v : Nat) (s : Bool) {r : Nat} (x : Dy) (ok : Bool) (h : r ≤ INF) (hv : wordB s r = v) (hok : decide (r < INF) = ok) (hx : (if r < INF then fD s r else ⟨0, 0⟩) = x) (w : World) (hT : Hid (Tab6 w)) : Calls Tryd.prog 45 #[.float .f64 v] w (QDPost x ok w) := by
  subst hv
  by_cases h1 : r < INF
  · rw [if_pos h1] at hx
    rw [decide_eq_true h1] at hok
    subst hx hok
    exact fl_dyad s h1 w hT
  · rw [if_neg h1] at hx
    rw [decide_eq_false h1] at hok
    subst hx hok
    exact fl_dyad_no s (by omega) (by have := inf_val; omega) w
set_option maxHeartbeats 8000000 in
set_option maxRecDepth 100000 in
theorem fbt_out (n1 : Bool) (A1 : Option Addr) (L1 : List Nat) (c1 : Nat) (e1 : Int) (v : Nat) (w : World) (htab : Hid (Tab w)) (hT : Hid (Tab6 w)) (hl : lightN [⟨n1, A1, L1.length, c1, e1⟩] = false) :
    Calls Tryd.prog 9 #[.agg #[.bool n1, .slice A1 L1.length c1, .int .i64 e1], .float .f64 v] w fun e w' => e = .returned (.bool true) ∧ Only [] w w' := by
  have HL := Lib.hid hl
  clear hl
  have hlv := light3_v (w := w.alloc (.cells #[.bool n1, .slice A1 L1.length c1, .int .i64 e1] 48)) [⟨n1, A1, L1.length, c1, e1⟩] 1 (Lib.hid rfl) (by omega)
  rw [HL.out] at hlv
  simp only [flatN, List.flatMap_cons, List.flatMap_nil, List.cons_append, List.nil_append, List.append_nil, World.size_alloc] at hlv
  have hk := (KB.start w).new 48 [.bool n1, .slice A1 L1.length c1, .int .i64 e1]
  have HK := Lib.hid hk
  have HLV := Lib.hid hlv
  obtain ⟨i0, i1, i2, -, -, -⟩ := hk.c3 0 rfl
  clear hlv hk HL
  go_enter Tryd.func9, Tryd.ntmps9
  go_wp2_with fail
  (with_reducible refine HLV.out.mono ?_)
  rintro e w1 ⟨rfl, ho⟩
  replace HK := Lib.hid (HK.out.step ho)
  clear ho i0 i1 i2
  go_wp2_with fail
  (with_reducible refine (alive4_any _ (Lib.hid (htab.out.only HK.out.only)) (Lib.hid (hT.out.keep HK.out.only))).mono ?_)
  rintro e w2 ⟨rfl, ho⟩
  replace HK := Lib.hid (HK.out.step ho)
  clear ho
  go_wp2_with fail
  go_ret
  exact ⟨rfl, HK.out.only⟩
set_option maxHeartbeats 8000000 in
set_option maxRecDepth 100000 in
theorem fbt_in (n1 : Bool) (A1 : Option Addr) (L1 : List Nat) (c1 : Nat) (x : Dy) (w : World) (HZ1 : Hid (sg n1 (val L1) = x.z)) (H1 : Hid (LimbsIn w A1 L1)) (htab : Hid (Tab w)) (hT : Hid (Tab6 w)) (hl1 : (L1.length : Int) ≤ 40) (he1 : -3000 ≤ x.e ∧ x.e ≤ 3000)
    (u1 u2 u3 : Nat) (hu1 : Hid (flW (decide ((0 : Int) ≤ -1)) x = u1)) (hu2 : Hid (flW (decide ((0 : Int) ≤ 1)) x = u2)) (a b : Bool) (r1 r2 : Nat) (HW1 : Hid (wordB a r1 = u1)) (HW2 : Hid (wordB b r2 = u2)) (HR1 : Hid (r1 ≤ INF)) (HR2 : Hid (r2 ≤ INF)) (HR1' : Hid (r1 < 9223372036854775808))
    (hor : FloatKind.f64.format.order u1 u2 = some .eq ∨ (FloatKind.f64.format.order u1 u2 = some .lt ∧ Hid (stepW (decide ((0 : Int) ≤ 1)) a r1 = u3) ∧ FloatKind.f64.format.order u3 u2 = some .eq)) (y1 y2 : Dy) (ok1 ok2 : Bool) (HO1 : Hid (decide (r1 < INF) = ok1)) (HO2 : Hid (decide (r2 < INF) = ok2)) (HY1 : Hid ((if r1 < INF then fD a r1 else ⟨0, 0⟩) = y1)) (HY2 : Hid ((if r2 < INF then fD b r2 else ⟨0, 0⟩) = y2))
    (hoks : (ok1 = true ∧ ok2 = true) ∨ (ok1 = true ∧ ok2 = false) ∨ (ok1 = false ∧ ok2 = true)) (cz1 cz2 : Int) (HC1 : Hid (cmpQ y1.q x.q = cz1)) (HC2 : Hid (cmpQ y2.q x.q = cz2)) (hcz1 : ok1 = true → ¬ 0 < cz1) (hcz2 : ok2 = true → ¬ cz2 < 0)
    (v : Nat) (fv : Bool) (HLU : Hid (v < 18446744073709551616)) (HFV : Hid (finB v = fv)) (sv ap aq_ : Bool) (rv rp rq p q p' q' : Nat) (HRV : Hid (rv < 9223372036854775808)) (HRP : Hid (rp < 9223372036854775808)) (HRQ : Hid (rq < 9223372036854775808)) (HV : Hid (wordB sv rv = v)) (HWP : Hid (wordB ap rp = p)) (HWQ : Hid (wordB aq_ rq = q))
    (HP1 : Hid (stepW (decide ((0 : Int) ≤ 1)) sv rv = p)) (HP2 : Hid (stepW (decide ((0 : Int) ≤ -1)) sv rv = q)) (HP3 : Hid (stepW (decide ((0 : Int) ≤ -1)) ap rp = p')) (HP4 : Hid (stepW (decide ((0 : Int) ≤ 1)) aq_ rq = q'))
    (hfin : fv = true → FloatKind.f64.format.order p v = some .gt ∧ FloatKind.f64.format.order q v = some .lt ∧ FloatKind.f64.format.order p' v = some .eq ∧ FloatKind.f64.format.order q' v = some .eq) :
    Calls Tryd.prog 9 #[.agg #[.bool n1, .slice A1 L1.length c1, .int .i64 x.e], .float .f64 v] w fun e w' => e = .returned (.bool true) ∧ Only [] w w' := by
  have HL : Hid (lightN [⟨n1, A1, L1.length, c1, x.e⟩] = true) := by
    show _ = _
    simp only [lightN, List.all_cons, List.all_nil, NR.ok, Bool.and_true, Bool.and_eq_true, decide_eq_true_eq]
    omega
  obtain ⟨N, hN⟩ : ∃ N : Nat, N = 4000 := ⟨_, rfl⟩
  have BX : Hid (Bnd N x) := num_bnd (by omega) (by omega) H1.out.2 HZ1.out he1.1 he1.2
  have BY1 : Hid (Bnd N y1) := by
    rw [← HY1.out]
    split
    · exact bnd_word _ _ (by omega) HR1.out
    · exact bnd_zero _
  have BY2 : Hid (Bnd N y2) := by
    rw [← HY2.out]
    split
    · exact bnd_word _ _ (by omega) HR2.out
    · exact bnd_zero _
  have hN2 : N ≤ 4000 := by omega
  have hlv := light3_v (w := w.alloc (.cells #[.bool n1, .slice A1 L1.length c1, .int .i64 x.e] 48)) [⟨n1, A1, L1.length, c1, x.e⟩] 1 (Lib.hid rfl) (by omega)
  rw [HL.out] at hlv
  simp only [flatN, List.flatMap_cons, List.flatMap_nil, List.cons_append, List.nil_append, List.append_nil, World.size_alloc] at hlv
  have hk := (KB.start w).new 48 [.bool n1, .slice A1 L1.length c1, .int .i64 x.e]
  have HK := Lib.hid hk
  have HLV := Lib.hid hlv
  obtain ⟨i0, i1, i2, -, -, -⟩ := hk.c3 0 rfl
  replace H1 := Lib.hid (H1.out.only hk.only)
  clear hlv hk HL hN he1
  go_enter Tryd.func9, Tryd.ntmps9
  go_wp2_with fail
  (with_reducible refine HLV.out.mono ?_)
  rintro e w1 ⟨rfl, ho⟩
  replace HK := Lib.hid (HK.out.step ho)
  replace H1 := Lib.hid (H1.out.only ho)
  clear ho i0 i1 i2
  go_wp2_with fail
  (with_reducible refine (alive4_any _ (Lib.hid (htab.out.only HK.out.only)) (Lib.hid (hT.out.keep HK.out.only))).mono ?_)
  rintro e w2 ⟨rfl, ho⟩
  replace HK := Lib.hid (HK.out.step ho)
  replace H1 := Lib.hid (H1.out.only ho)
  clear ho
  obtain ⟨i0, i1, i2, -, -, -⟩ := HK.out.c3 0 rfl
  go_wp2_with fail
  (with_reducible refine (numOfV_any n1 A1 L1 c1 x _ HZ1.out H1 hl1).mono ?_)
  rintro e w3 ⟨s3, A3, k3, c3, rfl, hv, ho⟩
  have HE := Lib.hid (((DB.start w).step (HK.out.only.nil_trans ho)).new hv)
  clear hv ho i0 i1 i2 HK H1
  obtain ⟨i0, i1, i2, -, -, -⟩ := DB.cells HE 0 rfl
  go_upto_region 4 with fail
  clear i0 i1 i2
  apply wp_region_typed2 (by kernel_rfl) [isV _, isV _, isV _, isV _, isV _, isV _] [[], [0], [], [2], [1], [3]] (by kernel_rfl) (by kernel_rfl)
  case ho =>
    refine owes2_cons (fun wx hox => ?_) ?_
    · skip
      have he := Lib.hid (HE.out.step hox)
      obtain ⟨i0, i1, i2, -, -, -⟩ := DB.cells he 0 rfl
      clear he
      refine withs_plain rfl ?_
      simp only [withs, List.getElem?_cons_zero, List.getElem?_cons_succ, Option.bind, Option.getD]
      repeat (first | (with_reducible refine all_isV ?_) | (with_reducible refine all_isWC ?_; intro sx Ax kx cx hvx hwx) | (with_reducible refine all_isNR ?_; intro Ax kx cx hvx) | (with_reducible refine all_isNV ?_; intro Ax kx cx hvx) | (with_reducible refine all_isDV ?_; intro sx Ax kx cx hvx) | (with_reducible refine all_isWV ?_; intro sx Ax kx cx hvx) | (with_reducible refine all_isD ?_; intro sx Ax kx cx hvx hwx) | (with_reducible refine all_isRow ?_; intro gx' hbx) | (with_reducible refine all_isPtr ?_; intro gp' hbp hgp) | (with_reducible refine all_isRow1 ?_; intro gx' sr Ar kr cr hbx hvr))
      go_simp
      exact ⟨Only.refl _ _, isV.self _ _⟩
    refine owes2_cons (fun wx hox => ?_) ?_
    · skip
      have he := Lib.hid (HE.out.step hox)
      obtain ⟨i0, i1, i2, -, -, -⟩ := DB.cells he 0 rfl
      clear he
      refine withs_plain rfl ?_
      simp only [withs, List.getElem?_cons_zero, List.getElem?_cons_succ, Option.bind, Option.getD]
      repeat (first | (with_reducible refine all_isV ?_) | (with_reducible refine all_isWC ?_; intro sx Ax kx cx hvx hwx) | (with_reducible refine all_isNR ?_; intro Ax kx cx hvx) | (with_reducible refine all_isNV ?_; intro Ax kx cx hvx) | (with_reducible refine all_isDV ?_; intro sx Ax kx cx hvx) | (with_reducible refine all_isWV ?_; intro sx Ax kx cx hvx) | (with_reducible refine all_isD ?_; intro sx Ax kx cx hvx hwx) | (with_reducible refine all_isRow ?_; intro gx' hbx) | (with_reducible refine all_isPtr ?_; intro gp' hbp hgp) | (with_reducible refine all_isRow1 ?_; intro gx' sr Ar kr cr hbx hvr))
      go_simp
      (with_reducible exact grow_of (float_d (-1) u1 hu1.out (DB.dv (Lib.hid (HE.out.step hox)) 0 rfl) BX (by omega) (Lib.hid (hT.out.keep (HE.out.step hox).only))))
    refine owes2_cons (fun wx hox => ?_) ?_
    · skip
      have he := Lib.hid (HE.out.step hox)
      obtain ⟨i0, i1, i2, -, -, -⟩ := DB.cells he 0 rfl
      clear he
      refine withs_plain rfl ?_
      simp only [withs, List.getElem?_cons_zero, List.getElem?_cons_succ, Option.bind, Option.getD]
      repeat (first | (with_reducible refine all_isV ?_) | (with_reducible refine all_isWC ?_; intro sx Ax kx cx hvx hwx) | (with_reducible refine all_isNR ?_; intro Ax kx cx hvx) | (with_reducible refine all_isNV ?_; intro Ax kx cx hvx) | (with_reducible refine all_isDV ?_; intro sx Ax kx cx hvx) | (with_reducible refine all_isWV ?_; intro sx Ax kx cx hvx) | (with_reducible refine all_isD ?_; intro sx Ax kx cx hvx hwx) | (with_reducible refine all_isRow ?_; intro gx' hbx) | (with_reducible refine all_isPtr ?_; intro gp' hbp hgp) | (with_reducible refine all_isRow1 ?_; intro gx' sr Ar kr cr hbx hvr))
      go_simp
      exact ⟨Only.refl _ _, isV.self _ _⟩
    refine owes2_cons (fun wx hox => ?_) ?_
    · skip
      have he := Lib.hid (HE.out.step hox)
      obtain ⟨i0, i1, i2, -, -, -⟩ := DB.cells he 0 rfl
      clear he
      refine withs_plain rfl ?_
      simp only [withs, List.getElem?_cons_zero, List.getElem?_cons_succ, Option.bind, Option.getD]
      repeat (first | (with_reducible refine all_isV ?_) | (with_reducible refine all_isWC ?_; intro sx Ax kx cx hvx hwx) | (with_reducible refine all_isNR ?_; intro Ax kx cx hvx) | (with_reducible refine all_isNV ?_; intro Ax kx cx hvx) | (with_reducible refine all_isDV ?_; intro sx Ax kx cx hvx) | (with_reducible refine all_isWV ?_; intro sx Ax kx cx hvx) | (with_reducible refine all_isD ?_; intro sx Ax kx cx hvx hwx) | (with_reducible refine all_isRow ?_; intro gx' hbx) | (with_reducible refine all_isPtr ?_; intro gp' hbp hgp) | (with_reducible refine all_isRow1 ?_; intro gx' sr Ar kr cr hbx hvr))
      go_simp
      (with_reducible exact grow_of (float_d 1 u2 hu2.out (DB.dv (Lib.hid (HE.out.step hox)) 0 rfl) BX (by omega) (Lib.hid (hT.out.keep (HE.out.step hox).only))))
    refine owes2_cons (fun wx hox => ?_) ?_
    · skip
      skip
      refine withs_plain rfl ?_
      simp only [withs, List.getElem?_cons_zero, List.getElem?_cons_succ, Option.bind, Option.getD]
      repeat (first | (with_reducible refine all_isV ?_) | (with_reducible refine all_isWC ?_; intro sx Ax kx cx hvx hwx) | (with_reducible refine all_isNR ?_; intro Ax kx cx hvx) | (with_reducible refine all_isNV ?_; intro Ax kx cx hvx) | (with_reducible refine all_isDV ?_; intro sx Ax kx cx hvx) | (with_reducible refine all_isWV ?_; intro sx Ax kx cx hvx) | (with_reducible refine all_isD ?_; intro sx Ax kx cx hvx hwx) | (with_reducible refine all_isRow ?_; intro gx' hbx) | (with_reducible refine all_isPtr ?_; intro gp' hbp hgp) | (with_reducible refine all_isRow1 ?_; intro gx' sr Ar kr cr hbx hvr))
      go_simp
      exact ⟨Only.refl _ _, isV.self _ _⟩
    refine owes2_cons (fun wx hox => ?_) ?_
    · skip
      skip
      refine withs_plain rfl ?_
      simp only [withs, List.getElem?_cons_zero, List.getElem?_cons_succ, Option.bind, Option.getD]
      repeat (first | (with_reducible refine all_isV ?_) | (with_reducible refine all_isWC ?_; intro sx Ax kx cx hvx hwx) | (with_reducible refine all_isNR ?_; intro Ax kx cx hvx) | (with_reducible refine all_isNV ?_; intro Ax kx cx hvx) | (with_reducible refine all_isDV ?_; intro sx Ax kx cx hvx) | (with_reducible refine all_isWV ?_; intro sx Ax kx cx hvx) | (with_reducible refine all_isD ?_; intro sx Ax kx cx hvx hwx) | (with_reducible refine all_isRow ?_; intro gx' hbx) | (with_reducible refine all_isPtr ?_; intro gp' hbp hgp) | (with_reducible refine all_isRow1 ?_; intro gx' sr Ar kr cr hbx hvr))
      go_simp
      exact ⟨Only.refl _ _, isV.self _ _⟩
    exact owes2_nil
  case he =>
    intro wx hox
    refine withs_of (by simp only [List.length, List.range, List.range.loop]; exact rfl) ?_
    simp only [withs, List.getElem?_cons_zero, List.getElem?_cons_succ, Option.bind, Option.getD]
    repeat (first | (with_reducible refine all_isV ?_) | (with_reducible refine all_isWC ?_; intro sx Ax kx cx hvx hwx) | (with_reducible refine all_isNR ?_; intro Ax kx cx hvx) | (with_reducible refine all_isNV ?_; intro Ax kx cx hvx) | (with_reducible refine all_isDV ?_; intro sx Ax kx cx hvx) | (with_reducible refine all_isWV ?_; intro sx Ax kx cx hvx) | (with_reducible refine all_isD ?_; intro sx Ax kx cx hvx hwx) | (with_reducible refine all_isRow ?_; intro gx' hbx) | (with_reducible refine all_isPtr ?_; intro gp' hbp hgp) | (with_reducible refine all_isRow1 ?_; intro gx' sr Ar kr cr hbx hvr))
    go_simp
    replace HE := Lib.hid (HE.out.step hox)
    clear hox
    rcases hor with g1 | ⟨g1, g2, g3⟩
    · skip
      rcases hoks with ⟨rfl, rfl⟩ | ⟨rfl, rfl⟩ | ⟨rfl, rfl⟩
      · have hz1 := hcz1 rfl
        have hz2 := hcz2 rfl
        clear hcz1 hcz2
        go_wp2_with fail
        (with_reducible refine (fl_dyadA u1 a y1 _ HR1.out HW1.out HO1.out HY1.out _ (Lib.hid (hT.out.keep HE.out.only))).mono ?_)
        rintro e w5 ⟨s7, A7, k7, c7, rfl, -, -, hv, ho⟩
        replace HE := Lib.hid ((HE.out.step ho).new hv)
        clear hv ho
        go_wp2_with fail
        (with_reducible refine (fl_dyadA u2 b y2 _ HR2.out HW2.out HO2.out HY2.out _ (Lib.hid (hT.out.keep HE.out.only))).mono ?_)
        rintro e w5 ⟨s8, A8, k8, c8, rfl, -, -, hv, ho⟩
        replace HE := Lib.hid ((HE.out.step ho).new hv)
        clear hv ho
        obtain ⟨i0, i1, i2, -, -, -⟩ := DB.cells HE 1 rfl
        obtain ⟨j0, j1, j2, -, -, -⟩ := DB.cells HE 2 rfl
        go_wp2_with fail
        (with_reducible refine (cmpV_d (x := y1) (y := x) _ (DB.dv HE 1 rfl) (DB.dv HE 2 rfl) BY1 BX (by omega) HC1.out).mono ?_)
        rintro e w5 ⟨rfl, ho⟩
        replace HE := Lib.hid (HE.out.step ho)
        clear ho i0 i1 i2 j0 j1 j2
        obtain ⟨i0, i1, i2, -, -, -⟩ := DB.cells HE 0 rfl
        obtain ⟨j0, j1, j2, -, -, -⟩ := DB.cells HE 2 rfl
        go_wp2_with fail
        (with_reducible refine (cmpV_d (x := y2) (y := x) _ (DB.dv HE 0 rfl) (DB.dv HE 2 rfl) BY2 BX (by omega) HC2.out).mono ?_)
        rintro e w5 ⟨rfl, ho⟩
        replace HE := Lib.hid (HE.out.step ho)
        clear ho i0 i1 i2 j0 j1 j2
        cases fv
        · skip
          go_wp2_with fail
          (with_reducible refine (finite_any v HLU.out _).mono ?_)
          rw [HFV.out]
          rintro e w5 ⟨rfl, rfl⟩
          go_wp2_with fail
          go_ret
          exact ⟨rfl, HE.out.only⟩
          
        · obtain ⟨o1, o2, o3, o4⟩ := hfin rfl
          clear hfin
          go_wp2_with fail
          (with_reducible refine (finite_any v HLU.out _).mono ?_)
          rw [HFV.out]
          rintro e w5 ⟨rfl, rfl⟩
          go_wp2_with fail
          (with_reducible refine (stepV v sv (r := rv) HRV.out HV.out 1 p HP1.out _).mono ?_)
          rintro e w5 ⟨rfl, rfl⟩
          go_wp2_with fail
          (with_reducible refine (stepV v sv (r := rv) HRV.out HV.out (-1) q HP2.out _).mono ?_)
          rintro e w5 ⟨rfl, rfl⟩
          go_wp2_with fail
          (with_reducible refine (stepV p ap (r := rp) HRP.out HWP.out (-1) p' HP3.out _).mono ?_)
          rintro e w5 ⟨rfl, rfl⟩
          go_wp2_with fail
          (with_reducible refine (stepV q aq_ (r := rq) HRQ.out HWQ.out 1 q' HP4.out _).mono ?_)
          rintro e w5 ⟨rfl, rfl⟩
          go_wp2_with fail
          go_ret
          exact ⟨rfl, HE.out.only⟩
          
      · have hz1 := hcz1 rfl
        clear hcz1 hcz2
        go_wp2_with fail
        (with_reducible refine (fl_dyadA u1 a y1 _ HR1.out HW1.out HO1.out HY1.out _ (Lib.hid (hT.out.keep HE.out.only))).mono ?_)
        rintro e w5 ⟨s7, A7, k7, c7, rfl, -, -, hv, ho⟩
        replace HE := Lib.hid ((HE.out.step ho).new hv)
        clear hv ho
        go_wp2_with fail
        (with_reducible refine (fl_dyadA u2 b y2 _ HR2.out HW2.out HO2.out HY2.out _ (Lib.hid (hT.out.keep HE.out.only))).mono ?_)
        rintro e w5 ⟨s8, A8, k8, c8, rfl, -, -, hv, ho⟩
        replace HE := Lib.hid ((HE.out.step ho).new hv)
        clear hv ho
        obtain ⟨i0, i1, i2, -, -, -⟩ := DB.cells HE 1 rfl
        obtain ⟨j0, j1, j2, -, -, -⟩ := DB.cells HE 2 rfl
        go_wp2_with fail
        (with_reducible refine (cmpV_d (x := y1) (y := x) _ (DB.dv HE 1 rfl) (DB.dv HE 2 rfl) BY1 BX (by omega) HC1.out).mono ?_)
        rintro e w5 ⟨rfl, ho⟩
        replace HE := Lib.hid (HE.out.step ho)
        clear ho i0 i1 i2 j0 j1 j2
        cases fv
        · skip
          go_wp2_with fail
          (with_reducible refine (finite_any v HLU.out _).mono ?_)
          rw [HFV.out]
          rintro e w5 ⟨rfl, rfl⟩
          go_wp2_with fail
          go_ret
          exact ⟨rfl, HE.out.only⟩
          
        · obtain ⟨o1, o2, o3, o4⟩ := hfin rfl
          clear hfin
          go_wp2_with fail
          (with_reducible refine (finite_any v HLU.out _).mono ?_)
          rw [HFV.out]
          rintro e w5 ⟨rfl, rfl⟩
          go_wp2_with fail
          (with_reducible refine (stepV v sv (r := rv) HRV.out HV.out 1 p HP1.out _).mono ?_)
          rintro e w5 ⟨rfl, rfl⟩
          go_wp2_with fail
          (with_reducible refine (stepV v sv (r := rv) HRV.out HV.out (-1) q HP2.out _).mono ?_)
          rintro e w5 ⟨rfl, rfl⟩
          go_wp2_with fail
          (with_reducible refine (stepV p ap (r := rp) HRP.out HWP.out (-1) p' HP3.out _).mono ?_)
          rintro e w5 ⟨rfl, rfl⟩
          go_wp2_with fail
          (with_reducible refine (stepV q aq_ (r := rq) HRQ.out HWQ.out 1 q' HP4.out _).mono ?_)
          rintro e w5 ⟨rfl, rfl⟩
          go_wp2_with fail
          go_ret
          exact ⟨rfl, HE.out.only⟩
          
      · have hz2 := hcz2 rfl
        clear hcz1 hcz2
        go_wp2_with fail
        (with_reducible refine (fl_dyadA u1 a y1 _ HR1.out HW1.out HO1.out HY1.out _ (Lib.hid (hT.out.keep HE.out.only))).mono ?_)
        rintro e w5 ⟨s7, A7, k7, c7, rfl, -, -, hv, ho⟩
        replace HE := Lib.hid ((HE.out.step ho).new hv)
        clear hv ho
        go_wp2_with fail
        (with_reducible refine (fl_dyadA u2 b y2 _ HR2.out HW2.out HO2.out HY2.out _ (Lib.hid (hT.out.keep HE.out.only))).mono ?_)
        rintro e w5 ⟨s8, A8, k8, c8, rfl, -, -, hv, ho⟩
        replace HE := Lib.hid ((HE.out.step ho).new hv)
        clear hv ho
        obtain ⟨i0, i1, i2, -, -, -⟩ := DB.cells HE 0 rfl
        obtain ⟨j0, j1, j2, -, -, -⟩ := DB.cells HE 2 rfl
        go_wp2_with fail
        (with_reducible refine (cmpV_d (x := y2) (y := x) _ (DB.dv HE 0 rfl) (DB.dv HE 2 rfl) BY2 BX (by omega) HC2.out).mono ?_)
        rintro e w5 ⟨rfl, ho⟩
        replace HE := Lib.hid (HE.out.step ho)
        clear ho i0 i1 i2 j0 j1 j2
        cases fv
        · skip
          go_wp2_with fail
          (with_reducible refine (finite_any v HLU.out _).mono ?_)
          rw [HFV.out]
          rintro e w5 ⟨rfl, rfl⟩
          go_wp2_with fail
          go_ret
          exact ⟨rfl, HE.out.only⟩
          
        · obtain ⟨o1, o2, o3, o4⟩ := hfin rfl
          clear hfin
          go_wp2_with fail
          (with_reducible refine (finite_any v HLU.out _).mono ?_)
          rw [HFV.out]
          rintro e w5 ⟨rfl, rfl⟩
          go_wp2_with fail
          (with_reducible refine (stepV v sv (r := rv) HRV.out HV.out 1 p HP1.out _).mono ?_)
          rintro e w5 ⟨rfl, rfl⟩
          go_wp2_with fail
          (with_reducible refine (stepV v sv (r := rv) HRV.out HV.out (-1) q HP2.out _).mono ?_)
          rintro e w5 ⟨rfl, rfl⟩
          go_wp2_with fail
          (with_reducible refine (stepV p ap (r := rp) HRP.out HWP.out (-1) p' HP3.out _).mono ?_)
          rintro e w5 ⟨rfl, rfl⟩
          go_wp2_with fail
          (with_reducible refine (stepV q aq_ (r := rq) HRQ.out HWQ.out 1 q' HP4.out _).mono ?_)
          rintro e w5 ⟨rfl, rfl⟩
          go_wp2_with fail
          go_ret
          exact ⟨rfl, HE.out.only⟩
          
    · skip
      go_wp2_with fail
      (with_reducible refine (stepV u1 a (r := r1) HR1'.out HW1.out 1 u3 g2.out _).mono ?_)
      rintro e w5 ⟨rfl, rfl⟩
      clear g2
      rcases hoks with ⟨rfl, rfl⟩ | ⟨rfl, rfl⟩ | ⟨rfl, rfl⟩
      · have hz1 := hcz1 rfl
        have hz2 := hcz2 rfl
        clear hcz1 hcz2
        go_wp2_with fail
        (with_reducible refine (fl_dyadA u1 a y1 _ HR1.out HW1.out HO1.out HY1.out _ (Lib.hid (hT.out.keep HE.out.only))).mono ?_)
        rintro e w5 ⟨s7, A7, k7, c7, rfl, -, -, hv, ho⟩
        replace HE := Lib.hid ((HE.out.step ho).new hv)
        clear hv ho
        go_wp2_with fail
        (with_reducible refine (fl_dyadA u2 b y2 _ HR2.out HW2.out HO2.out HY2.out _ (Lib.hid (hT.out.keep HE.out.only))).mono ?_)
        rintro e w5 ⟨s8, A8, k8, c8, rfl, -, -, hv, ho⟩
        replace HE := Lib.hid ((HE.out.step ho).new hv)
        clear hv ho
        obtain ⟨i0, i1, i2, -, -, -⟩ := DB.cells HE 1 rfl
        obtain ⟨j0, j1, j2, -, -, -⟩ := DB.cells HE 2 rfl
        go_wp2_with fail
        (with_reducible refine (cmpV_d (x := y1) (y := x) _ (DB.dv HE 1 rfl) (DB.dv HE 2 rfl) BY1 BX (by omega) HC1.out).mono ?_)
        rintro e w5 ⟨rfl, ho⟩
        replace HE := Lib.hid (HE.out.step ho)
        clear ho i0 i1 i2 j0 j1 j2
        obtain ⟨i0, i1, i2, -, -, -⟩ := DB.cells HE 0 rfl
        obtain ⟨j0, j1, j2, -, -, -⟩ := DB.cells HE 2 rfl
        go_wp2_with fail
        (with_reducible refine (cmpV_d (x := y2) (y := x) _ (DB.dv HE 0 rfl) (DB.dv HE 2 rfl) BY2 BX (by omega) HC2.out).mono ?_)
        rintro e w5 ⟨rfl, ho⟩
        replace HE := Lib.hid (HE.out.step ho)
        clear ho i0 i1 i2 j0 j1 j2
        cases fv
        · skip
          go_wp2_with fail
          (with_reducible refine (finite_any v HLU.out _).mono ?_)
          rw [HFV.out]
          rintro e w5 ⟨rfl, rfl⟩
          go_wp2_with fail
          go_ret
          exact ⟨rfl, HE.out.only⟩
          
        · obtain ⟨o1, o2, o3, o4⟩ := hfin rfl
          clear hfin
          go_wp2_with fail
          (with_reducible refine (finite_any v HLU.out _).mono ?_)
          rw [HFV.out]
          rintro e w5 ⟨rfl, rfl⟩
          go_wp2_with fail
          (with_reducible refine (stepV v sv (r := rv) HRV.out HV.out 1 p HP1.out _).mono ?_)
          rintro e w5 ⟨rfl, rfl⟩
          go_wp2_with fail
          (with_reducible refine (stepV v sv (r := rv) HRV.out HV.out (-1) q HP2.out _).mono ?_)
          rintro e w5 ⟨rfl, rfl⟩
          go_wp2_with fail
          (with_reducible refine (stepV p ap (r := rp) HRP.out HWP.out (-1) p' HP3.out _).mono ?_)
          rintro e w5 ⟨rfl, rfl⟩
          go_wp2_with fail
          (with_reducible refine (stepV q aq_ (r := rq) HRQ.out HWQ.out 1 q' HP4.out _).mono ?_)
          rintro e w5 ⟨rfl, rfl⟩
          go_wp2_with fail
          go_ret
          exact ⟨rfl, HE.out.only⟩
          
      · have hz1 := hcz1 rfl
        clear hcz1 hcz2
        go_wp2_with fail
        (with_reducible refine (fl_dyadA u1 a y1 _ HR1.out HW1.out HO1.out HY1.out _ (Lib.hid (hT.out.keep HE.out.only))).mono ?_)
        rintro e w5 ⟨s7, A7, k7, c7, rfl, -, -, hv, ho⟩
        replace HE := Lib.hid ((HE.out.step ho).new hv)
        clear hv ho
        go_wp2_with fail
        (with_reducible refine (fl_dyadA u2 b y2 _ HR2.out HW2.out HO2.out HY2.out _ (Lib.hid (hT.out.keep HE.out.only))).mono ?_)
        rintro e w5 ⟨s8, A8, k8, c8, rfl, -, -, hv, ho⟩
        replace HE := Lib.hid ((HE.out.step ho).new hv)
        clear hv ho
        obtain ⟨i0, i1, i2, -, -, -⟩ := DB.cells HE 1 rfl
        obtain ⟨j0, j1, j2, -, -, -⟩ := DB.cells HE 2 rfl
        go_wp2_with fail
        (with_reducible refine (cmpV_d (x := y1) (y := x) _ (DB.dv HE 1 rfl) (DB.dv HE 2 rfl) BY1 BX (by omega) HC1.out).mono ?_)
        rintro e w5 ⟨rfl, ho⟩
        replace HE := Lib.hid (HE.out.step ho)
        clear ho i0 i1 i2 j0 j1 j2
        cases fv
        · skip
          go_wp2_with fail
          (with_reducible refine (finite_any v HLU.out _).mono ?_)
          rw [HFV.out]
          rintro e w5 ⟨rfl, rfl⟩
          go_wp2_with fail
          go_ret
          exact ⟨rfl, HE.out.only⟩
          
        · obtain ⟨o1, o2, o3, o4⟩ := hfin rfl
          clear hfin
          go_wp2_with fail
          (with_reducible refine (finite_any v HLU.out _).mono ?_)
          rw [HFV.out]
          rintro e w5 ⟨rfl, rfl⟩
          go_wp2_with fail
          (with_reducible refine (stepV v sv (r := rv) HRV.out HV.out 1 p HP1.out _).mono ?_)
          rintro e w5 ⟨rfl, rfl⟩
          go_wp2_with fail
          (with_reducible refine (stepV v sv (r := rv) HRV.out HV.out (-1) q HP2.out _).mono ?_)
          rintro e w5 ⟨rfl, rfl⟩
          go_wp2_with fail
          (with_reducible refine (stepV p ap (r := rp) HRP.out HWP.out (-1) p' HP3.out _).mono ?_)
          rintro e w5 ⟨rfl, rfl⟩
          go_wp2_with fail
          (with_reducible refine (stepV q aq_ (r := rq) HRQ.out HWQ.out 1 q' HP4.out _).mono ?_)
          rintro e w5 ⟨rfl, rfl⟩
          go_wp2_with fail
          go_ret
          exact ⟨rfl, HE.out.only⟩
          
      · have hz2 := hcz2 rfl
        clear hcz1 hcz2
        go_wp2_with fail
        (with_reducible refine (fl_dyadA u1 a y1 _ HR1.out HW1.out HO1.out HY1.out _ (Lib.hid (hT.out.keep HE.out.only))).mono ?_)
        rintro e w5 ⟨s7, A7, k7, c7, rfl, -, -, hv, ho⟩
        replace HE := Lib.hid ((HE.out.step ho).new hv)
        clear hv ho
        go_wp2_with fail
        (with_reducible refine (fl_dyadA u2 b y2 _ HR2.out HW2.out HO2.out HY2.out _ (Lib.hid (hT.out.keep HE.out.only))).mono ?_)
        rintro e w5 ⟨s8, A8, k8, c8, rfl, -, -, hv, ho⟩
        replace HE := Lib.hid ((HE.out.step ho).new hv)
        clear hv ho
        obtain ⟨i0, i1, i2, -, -, -⟩ := DB.cells HE 0 rfl
        obtain ⟨j0, j1, j2, -, -, -⟩ := DB.cells HE 2 rfl
        go_wp2_with fail
        (with_reducible refine (cmpV_d (x := y2) (y := x) _ (DB.dv HE 0 rfl) (DB.dv HE 2 rfl) BY2 BX (by omega) HC2.out).mono ?_)
        rintro e w5 ⟨rfl, ho⟩
        replace HE := Lib.hid (HE.out.step ho)
        clear ho i0 i1 i2 j0 j1 j2
        cases fv
        · skip
          go_wp2_with fail
          (with_reducible refine (finite_any v HLU.out _).mono ?_)
          rw [HFV.out]
          rintro e w5 ⟨rfl, rfl⟩
          go_wp2_with fail
          go_ret
          exact ⟨rfl, HE.out.only⟩
          
        · obtain ⟨o1, o2, o3, o4⟩ := hfin rfl
          clear hfin
          go_wp2_with fail
          (with_reducible refine (finite_any v HLU.out _).mono ?_)
          rw [HFV.out]
          rintro e w5 ⟨rfl, rfl⟩
          go_wp2_with fail
          (with_reducible refine (stepV v sv (r := rv) HRV.out HV.out 1 p HP1.out _).mono ?_)
          rintro e w5 ⟨rfl, rfl⟩
          go_wp2_with fail
          (with_reducible refine (stepV v sv (r := rv) HRV.out HV.out (-1) q HP2.out _).mono ?_)
          rintro e w5 ⟨rfl, rfl⟩
          go_wp2_with fail
          (with_reducible refine (stepV p ap (r := rp) HRP.out HWP.out (-1) p' HP3.out _).mono ?_)
          rintro e w5 ⟨rfl, rfl⟩
          go_wp2_with fail
          (with_reducible refine (stepV q aq_ (r := rq) HRQ.out HWQ.out 1 q' HP4.out _).mono ?_)
          rintro e w5 ⟨rfl, rfl⟩
          go_wp2_with fail
          go_ret
          exact ⟨rfl, HE.out.only⟩
          
  case hl =>
    repeat (refine List.forall_mem_cons.2 ⟨?_, ?_⟩; first | exact isV.lasts _ | exact isD.lasts _ | exact isNV.lasts _ | exact isDV.lasts _ | exact isWV.lasts _ | exact isWC.lasts _ | exact isNR.lasts _ _ | exact isWR.lasts _ _ | exact isRow.lasts _ _ _ | exact isPtr.lasts _ _ _ | exact isRow1.lasts _)
    exact fun _ h => (by cases h)
theorem cmpQ_nle {a b : Rat} (h : a ≤ b) : ¬ 0 < cmpQ a b := by
  rcases rat_tri a b with h1 | h1 | h1
  · rw [cmpQ_lt h1]; omega
  · rw [cmpQ_eq h1]; omega
  · exact absurd h1 (by grind)
theorem cmpQ_nge {a b : Rat} (h : b ≤ a) : ¬ cmpQ a b < 0 := by
  rcases rat_tri a b with h1 | h1 | h1
  · exact absurd h1 (by grind)
  · rw [cmpQ_eq h1]; omega
  · rw [cmpQ_gt h1]; omega
theorem floBetween_any (n1 : Bool) (A1 : Option Addr) (c1 : Nat) (L1 : List Nat) (e1 : Int) (v : Nat) (w : World) (h1 : LimbsIn w A1 L1) (_ : L1.length ≤ c1) (_ : c1 ≤ maxLen) (_ : -9223372036854775808 ≤ e1 ∧ e1 ≤ 9223372036854775807) (hv : (Lit.float .f64 v).wf = true) (htab : Tab w) (hT : Tab6 w) :
    Calls Tryd.prog 9 #[.agg #[.bool n1, .slice A1 L1.length c1, .int .i64 e1], .float .f64 v] w fun e w' => e = .returned (.bool true) ∧ Only [] w w' := by
  have hv : v < 18446744073709551616 := by have : v < 2 ^ 64 := by simpa [Lit.wf] using hv
                                           omega
  have hiv := inf_val
  cases hl : lightN [⟨n1, A1, L1.length, c1, e1⟩] with
  | false => exact fbt_out n1 A1 L1 c1 e1 v w (Lib.hid htab) (Lib.hid hT) hl
  | true =>
    simp only [lightN, List.all_cons, List.all_nil, NR.ok, Bool.and_true, Bool.and_eq_true, decide_eq_true_eq] at hl
    obtain ⟨a, r, b, s, a1, a2, a3, a4, a5, a6, a7, a8⟩ := between_law ⟨sg n1 (val L1), e1⟩
    obtain ⟨sv, rv, rfl, hrv⟩ := word_split hv
    have hor : ∃ u3, FloatKind.f64.format.order (wordB a r) (wordB b s) = some .eq ∨ (FloatKind.f64.format.order (wordB a r) (wordB b s) = some .lt ∧ Hid (stepW (decide ((0 : Int) ≤ 1)) a r = u3) ∧ FloatKind.f64.format.order u3 (wordB b s) = some .eq) := by
      rcases a8 with h | ⟨h, c, t, g1, g2, g3⟩
      · exact ⟨0, .inl (ord_is a b r s a3 a4 _ (compare_eq_iff.2 h))⟩
      · exact ⟨_, .inr ⟨ord_is a b r s a3 a4 _ (compare_lt_iff.2 h), g1, ord_is c b t s g2 a4 _ (compare_eq_iff.2 g3)⟩⟩
    obtain ⟨u3, hor⟩ := hor
    have hoks : (decide (r < INF) = true ∧ decide (s < INF) = true) ∨ (decide (r < INF) = true ∧ decide (s < INF) = false) ∨ (decide (r < INF) = false ∧ decide (s < INF) = true) := by
      by_cases h1 : r < INF <;> by_cases h2 : s < INF <;> simp [h1, h2]
      omega
    have hst : ∃ ap rp aq_ rq p' q', stepW true sv rv = wordB ap rp ∧ stepW false sv rv = wordB aq_ rq ∧ rp < 9223372036854775808 ∧ rq < 9223372036854775808 ∧ stepW false ap rp = p' ∧ stepW true aq_ rq = q' ∧ (decide (rv < INF) = true → FloatKind.f64.format.order (wordB ap rp) (wordB sv rv) = some .gt ∧ FloatKind.f64.format.order (wordB aq_ rq) (wordB sv rv) = some .lt ∧ FloatKind.f64.format.order p' (wordB sv rv) = some .eq ∧ FloatKind.f64.format.order q' (wordB sv rv) = some .eq) := by
      by_cases h : rv < INF
      · obtain ⟨ap, rp, aq_, rq, b1, b2, b3, b4, b5, b6, ⟨c, t, d1, d2, d3⟩, ⟨c', t', d1', d2', d3'⟩⟩ := step_law sv h
        refine ⟨ap, rp, aq_, rq, _, _, b1, b2, by omega, by omega, d1, d1', fun _ => ⟨ord_is _ _ _ _ b3 (by omega) _ (compare_gt_iff.2 b5), ord_is _ _ _ _ b4 (by omega) _ (compare_lt_iff.2 b6), ord_is _ _ _ _ d2 (by omega) _ (compare_eq_iff.2 d3), ord_is _ _ _ _ d2' (by omega) _ (compare_eq_iff.2 d3')⟩⟩
      · have e : ∀ up, ∃ a r, stepW up sv rv = wordB a r ∧ r < 9223372036854775808 := fun up => by
          unfold stepW
          by_cases h2 : INF < rv
          · exact ⟨sv, rv, by rw [if_pos h2], hrv⟩
          · rw [if_neg h2, if_neg (by omega)]
            by_cases h3 : rv = INF ∧ sv = !up
            · exact ⟨sv, rv, by rw [if_pos h3], hrv⟩
            · rw [if_neg h3]
              by_cases h4 : (!sv) = up
              · exact ⟨sv, rv + 1, by rw [if_pos h4, word_suc], by omega⟩
              · exact ⟨sv, rv - 1, by rw [if_neg h4, word_pre _ (by omega)], by omega⟩
        obtain ⟨ap, rp, e1, e2⟩ := e true
        obtain ⟨aq_, rq, e3, e4⟩ := e false
        exact ⟨ap, rp, aq_, rq, _, _, e1, e3, e2, e4, rfl, rfl, fun hc => absurd hc (by simp [h])⟩
    obtain ⟨ap, rp, aq_, rq, p', q', b1, b2, b3, b4, b5, b6, b7⟩ := hst
    refine fbt_in n1 A1 L1 c1 ⟨sg n1 (val L1), e1⟩ w (Lib.hid rfl) (Lib.hid h1) (Lib.hid htab) (Lib.hid hT) (by omega) (by show _ ≤ e1 ∧ e1 ≤ _; omega) _ _ u3 (Lib.hid a1) (Lib.hid a2) a b r s (Lib.hid rfl) (Lib.hid rfl) (Lib.hid a3) (Lib.hid a4) (Lib.hid (by omega)) hor _ _ _ _ (Lib.hid rfl) (Lib.hid rfl) (Lib.hid rfl) (Lib.hid rfl) hoks _ _ (Lib.hid rfl) (Lib.hid rfl) (fun h => ?_) (fun h => ?_) (wordB sv rv) _ (Lib.hid hv) (Lib.hid (fin_word sv hrv)) sv ap aq_ rv rp rq _ _ p' q' (Lib.hid hrv) (Lib.hid b3) (Lib.hid b4) (Lib.hid rfl) (Lib.hid rfl) (Lib.hid rfl) (Lib.hid b1) (Lib.hid b2) (Lib.hid b5) (Lib.hid b6) b7
    · have h2 : r < INF := by simpa using h
      rw [if_pos h2]
      exact cmpQ_nle (a6 h2)
    · have h2 : s < INF := by simpa using h
      rw [if_pos h2]
      exact cmpQ_nge (a7 h2)

end Fl
end Go.Proofs.YtgiejjpemhceiaaDoor
