/-
  FloOrders: the walk.
-/
import Derived.Test.YtgiejjpemhceiaaDoorTaFlD
import Derived.Test.YtgiejjpemhceiaaDoorTaFlS
import Derived.Test.YtgiejjpemhceiaaDoorTaFlR
import Derived.Test.YtgiejjpemhceiaaDoorTaDyQ
import Derived.Test.YtgiejjpemhceiaaDoorTaLawFp
import Derived.Test.YtgiejjpemhceiaaDoorTaGRd
import Derived.Test.YtgiejjpemhceiaaDoorTaGDyB
namespace Go.Proofs.YtgiejjpemhceiaaDoor
set_option linter.unusedSimpArgs false
open Go.RowKit
namespace Fl
theorem addV_d {w : World} {a b : Value} {x y : Dy} {N : Nat} (z : Dy) (hz : dAdd x y = z) (ha : Hid (DV w a x)) (hb : Hid (DV w b y)) (hx : Hid (Bnd N x)) (hy : Hid (Bnd N y)) (hN : N ≤ 2000000) (hT : Hid (Tab6 w)) : Calls Tryd.prog 54 #[a, b] w (DPost z w) := hz ▸ add_d ha hb hx hy hN hT
theorem rref_dV {w : World} {a : Value} {x : Dy} {N : Nat} (r : Dy) (hr : nrm x.z x.e = r) (ha : Hid (DV w a x)) (bx : Hid (Bnd N x)) (hN : N ≤ 8000000) : Calls Tryd.prog 35 #[a] w (RDP r w) := hr ▸ rref_d ha bx hN
theorem cmp_val (s t : Bool) (r q : Nat) : cmpQ (fD s r).q (fD t q).q = (match compare (sg s r) (sg t q) with | .lt => -1 | .eq => 0 | .gt => 1) := by
  rw [fD_q, fD_q, cmpQ_at, ← sg_rung]
  rcases Int.lt_trichotomy (sg s (NR r)) (sg t (NR q)) with h | h | h
  · rw [cmpI_lt h, compare_lt_iff.2 h]
  · rw [cmpI_eq h, compare_eq_iff.2 h]
  · rw [cmpI_gt h, compare_gt_iff.2 h]
theorem le_ord {a b : Bool} {r s : Nat} (hr : r ≤ INF) (hs : s ≤ INF) (h : sg a r ≤ sg b s) : ∃ o, FloatKind.f64.format.order (wordB a r) (wordB b s) = o ∧ (o == some .lt || o == some .eq) = true := by
  refine ⟨_, rfl, ?_⟩
  show (Ieee.double.order _ _ == _ || _) = _
  rw [ord_rung a b hr hs]
  show (_ || Ieee.double.order _ _ == _) = _
  rw [ord_rung a b hr hs]
  rcases Int.lt_or_eq_of_le h with h | h
  · rw [compare_lt_iff.2 h]; rfl
  · rw [compare_eq_iff.2 h]; rfl
set_option maxHeartbeats 8000000 in
set_option maxRecDepth 100000 in
theorem ford_out (v y : Nat) (w : World) (htab : Hid (Tab w)) (hT : Hid (Tab6 w)) (hv : v < 18446744073709551616) (hy : y < 18446744073709551616) (h : finB v = false ∨ (finB v = true ∧ finB y = false)) : Calls Tryd.prog 11 #[.float .f64 v, .float .f64 y] w fun e w' => e = .returned (.bool true) ∧ Only [] w w' := by
  have HE := Lib.hid (DB.start w)
  have HLV := Lib.hid hv
  have HLW := Lib.hid hy
  clear hv hy
  rcases h with h | ⟨h, h'⟩
  · have HFV := Lib.hid h
    clear h
    go_enter Tryd.func11, Tryd.ntmps11
    go_wp2_with fail
    (with_reducible refine (finite_any v HLV.out _).mono ?_)
    rw [HFV.out]
    rintro e w5 ⟨rfl, rfl⟩
    
    go_wp2_with fail
    (with_reducible refine (alive4_any _ (Lib.hid (htab.out.only HE.out.only)) (Lib.hid (hT.out.keep HE.out.only))).mono ?_)
    rintro e w5 ⟨rfl, ho⟩
    replace HE := Lib.hid (HE.out.step ho)
    clear ho
    skip
    go_wp2_with fail
    go_ret
    exact ⟨rfl, HE.out.only⟩
  · have HFV := Lib.hid h
    have HFW := Lib.hid h'
    clear h h'
    go_enter Tryd.func11, Tryd.ntmps11
    go_wp2_with fail
    (with_reducible refine (finite_any v HLV.out _).mono ?_)
    rw [HFV.out]
    rintro e w5 ⟨rfl, rfl⟩
    go_wp2_with fail
    (with_reducible refine (finite_any y HLW.out _).mono ?_)
    rw [HFW.out]
    rintro e w5 ⟨rfl, rfl⟩
    
    go_wp2_with fail
    (with_reducible refine (alive4_any _ (Lib.hid (htab.out.only HE.out.only)) (Lib.hid (hT.out.keep HE.out.only))).mono ?_)
    rintro e w5 ⟨rfl, ho⟩
    replace HE := Lib.hid (HE.out.step ho)
    clear ho
    skip
    go_wp2_with fail
    go_ret
    exact ⟨rfl, HE.out.only⟩
set_option maxHeartbeats 8000000 in
set_option maxRecDepth 100000 in
theorem ford_in (s t : Bool) (r q v y_ u1 u2 u3 : Nat) (x y z : Dy) (cz : Int) (o : Ordering) (f3 : Bool) (o1 o2 : Option Ordering) (w : World) (htab : Hid (Tab w)) (hT : Hid (Tab6 w)) (HR : Hid (r < INF)) (HQ : Hid (q < INF)) (HV : Hid (wordB s r = v)) (HW : Hid (wordB t q = y_)) (HXD : Hid (fD s r = x)) (HYD : Hid (fD t q = y)) (HZ : Hid (dAdd x y = z))
    (hu1 : Hid (flW (decide ((0 : Int) ≤ -1)) z = u1)) (hu2 : Hid (flW (decide ((0 : Int) ≤ 1)) z = u2)) (h3 : floatBits .add .f64 v y_ = some u3) (HF3 : Hid (finB u3 = f3)) (HL3 : Hid (u3 < 18446744073709551616)) (ho : FloatKind.f64.format.order v y_ = some o) (HC : Hid (cmpQ x.q y.q = cz)) (hoc : (o = .lt ∧ cz = -1) ∨ (o = .eq ∧ cz = 0) ∨ (o = .gt ∧ cz = 1))
    (ho1 : FloatKind.f64.format.order u1 u3 = o1) (ho2 : FloatKind.f64.format.order u3 u2 = o2) (h12 : f3 = true → (o1 == some .lt || o1 == some .eq) = true ∧ (o2 == some .lt || o2 == some .eq) = true) : Calls Tryd.prog 11 #[.float .f64 v, .float .f64 y_] w fun e w' => e = .returned (.bool true) ∧ Only [] w w' := by
  have HE := Lib.hid (DB.start w)
  obtain ⟨N, hN⟩ : ∃ N : Nat, N = 17000 := ⟨_, rfl⟩
  have HLV : Hid (v < 18446744073709551616) := by rw [← HV.out]; exact word_lt s (by have := HR.out; rw [inf_val] at this; omega)
  have HLW : Hid (y_ < 18446744073709551616) := by rw [← HW.out]; exact word_lt t (by have := HQ.out; rw [inf_val] at this; omega)
  have HFV : Hid (finB v = true) := by rw [← HV.out]; exact finN s HR.out
  have HFW : Hid (finB y_ = true) := by rw [← HW.out]; exact finN t HQ.out
  have BX : Hid (Bnd 4000 x) := by rw [← HXD.out]; exact bnd_word _ _ (by omega) (Nat.le_of_lt HR.out)
  have BY : Hid (Bnd 4000 y) := by rw [← HYD.out]; exact bnd_word _ _ (by omega) (Nat.le_of_lt HQ.out)
  have BZ : Hid (Bnd N z) := by rw [← HZ.out]; exact BX.out.add BY.out (by omega)
  have CX : Hid (Can x) := by rw [← HXD.out]; exact fD_can _ _
  have HNX : Hid (nrm x.z x.e = x) := CX.out.nrm_self
  have hadd : ∀ w : World, (binOp .add 22 (.float .f64 v) (.float .f64 y_)).run Tryd.prog w = .ok (.float .f64 u3) w := fun w => run_float_arith w .add 22 .f64 _ _ _ h3
  have hN2 : N ≤ 17000 := by omega
  clear h3 hN
  go_enter Tryd.func11, Tryd.ntmps11
  go_wp2_with fail
  (with_reducible refine (finite_any v HLV.out _).mono ?_)
  rw [HFV.out]
  rintro e w5 ⟨rfl, rfl⟩
  go_wp2_with fail
  (with_reducible refine (finite_any y_ HLW.out _).mono ?_)
  rw [HFW.out]
  rintro e w5 ⟨rfl, rfl⟩
  
  go_wp2_with fail
  (with_reducible refine (alive4_any _ (Lib.hid (htab.out.only HE.out.only)) (Lib.hid (hT.out.keep HE.out.only))).mono ?_)
  rintro e w5 ⟨rfl, ho⟩
  replace HE := Lib.hid (HE.out.step ho)
  clear ho
  skip
  go_wp2_with fail
  (with_reducible refine (fl_dyadV v s x HR.out HV.out HXD.out _ (Lib.hid (hT.out.keep HE.out.only))).mono ?_)
  rintro e w5 ⟨s1, A1, k1, c1, rfl, -, -, hv, ho⟩
  replace HE := Lib.hid ((HE.out.step ho).new hv)
  clear hv ho
  go_wp2_with fail
  (with_reducible refine (fl_dyadV y_ t y HQ.out HW.out HYD.out _ (Lib.hid (hT.out.keep HE.out.only))).mono ?_)
  rintro e w5 ⟨s2, A2, k2, c2, rfl, -, -, hv, ho⟩
  replace HE := Lib.hid ((HE.out.step ho).new hv)
  clear hv ho
  obtain ⟨i0, i1, i2, -, -, -⟩ := DB.cells HE 1 rfl
  obtain ⟨j0, j1, j2, -, -, -⟩ := DB.cells HE 0 rfl
  go_wp2_with fail
  (with_reducible refine (addV_d z HZ.out (DB.dv HE 1 rfl) (DB.dv HE 0 rfl) BX BY (by omega) (Lib.hid (hT.out.keep HE.out.only))).mono ?_)
  rintro e w5 ⟨s9, A9, k9, c9, rfl, -, -, hv, ho⟩
  replace HE := Lib.hid ((HE.out.step ho).new hv)
  clear hv ho i0 i1 i2 j0 j1 j2
  obtain ⟨i0, i1, i2, -, -, -⟩ := DB.cells HE 0 rfl
  go_upto_region 6 with fail
  clear i0 i1 i2
  apply wp_region_typed2 (by kernel_rfl) [isV _, isV _, isV _, isV _, isV _, isV _] [[], [0], [], [2], [1], [3]] (by kernel_rfl) (by kernel_rfl)
  case ho =>
    refine owes2_cons (fun wx hox => ?_) ?_
    · skip
      have he := Lib.hid (HE.out.step hox)
      obtain ⟨i0, i1, i2, -, -, -⟩ := DB.cells he 0 rfl
      clear he
      refine withs_plain rfl ?_
      simp only [withs, List.getElem?_cons_zero, List.getElem?_cons_succ, Option.bind, Option.getD]
      repeat (first | (with_reducible refine all_isV ?_) | (with_reducible refine all_isWC ?_; intro sx Ax kx cx hvx hwx) | (with_reducible refine all_isNR ?_; intro Ax kx cx hvx) | (with_reducible refine all_isNV ?_; intro Ax kx cx hvx) | (with_reducible refine all_isDV ?_; intro sx Ax kx cx hvx) | (with_reducible refine all_isWV ?_; intro sx Ax kx cx hvx) | (with_reducible refine all_isD ?_; intro sx Ax kx cx hvx hwx) | (with_reducible refine all_isRow ?_; intro gx' hbx) | (with_reducible refine all_isPtr ?_; intro gp' hbp hgp) | (with_reducible refine all_isRow1 ?_; intro gx' sr Ar kr cr hbx hvr))
      go_simp
      exact ⟨Only.refl _ _, isV.self _ _⟩
    refine owes2_cons (fun wx hox => ?_) ?_
    · skip
      have he := Lib.hid (HE.out.step hox)
      obtain ⟨i0, i1, i2, -, -, -⟩ := DB.cells he 0 rfl
      clear he
      refine withs_plain rfl ?_
      simp only [withs, List.getElem?_cons_zero, List.getElem?_cons_succ, Option.bind, Option.getD]
      repeat (first | (with_reducible refine all_isV ?_) | (with_reducible refine all_isWC ?_; intro sx Ax kx cx hvx hwx) | (with_reducible refine all_isNR ?_; intro Ax kx cx hvx) | (with_reducible refine all_isNV ?_; intro Ax kx cx hvx) | (with_reducible refine all_isDV ?_; intro sx Ax kx cx hvx) | (with_reducible refine all_isWV ?_; intro sx Ax kx cx hvx) | (with_reducible refine all_isD ?_; intro sx Ax kx cx hvx hwx) | (with_reducible refine all_isRow ?_; intro gx' hbx) | (with_reducible refine all_isPtr ?_; intro gp' hbp hgp) | (with_reducible refine all_isRow1 ?_; intro gx' sr Ar kr cr hbx hvr))
      go_simp
      (with_reducible exact grow_of (float_d (-1) u1 hu1.out (DB.dv (Lib.hid (HE.out.step hox)) 0 rfl) BZ (by omega) (Lib.hid (hT.out.keep (HE.out.step hox).only))))
    refine owes2_cons (fun wx hox => ?_) ?_
    · skip
      have he := Lib.hid (HE.out.step hox)
      obtain ⟨i0, i1, i2, -, -, -⟩ := DB.cells he 0 rfl
      clear he
      refine withs_plain rfl ?_
      simp only [withs, List.getElem?_cons_zero, List.getElem?_cons_succ, Option.bind, Option.getD]
      repeat (first | (with_reducible refine all_isV ?_) | (with_reducible refine all_isWC ?_; intro sx Ax kx cx hvx hwx) | (with_reducible refine all_isNR ?_; intro Ax kx cx hvx) | (with_reducible refine all_isNV ?_; intro Ax kx cx hvx) | (with_reducible refine all_isDV ?_; intro sx Ax kx cx hvx) | (with_reducible refine all_isWV ?_; intro sx Ax kx cx hvx) | (with_reducible refine all_isD ?_; intro sx Ax kx cx hvx hwx) | (with_reducible refine all_isRow ?_; intro gx' hbx) | (with_reducible refine all_isPtr ?_; intro gp' hbp hgp) | (with_reducible refine all_isRow1 ?_; intro gx' sr Ar kr cr hbx hvr))
      go_simp
      exact ⟨Only.refl _ _, isV.self _ _⟩
    refine owes2_cons (fun wx hox => ?_) ?_
    · skip
      have he := Lib.hid (HE.out.step hox)
      obtain ⟨i0, i1, i2, -, -, -⟩ := DB.cells he 0 rfl
      clear he
      refine withs_plain rfl ?_
      simp only [withs, List.getElem?_cons_zero, List.getElem?_cons_succ, Option.bind, Option.getD]
      repeat (first | (with_reducible refine all_isV ?_) | (with_reducible refine all_isWC ?_; intro sx Ax kx cx hvx hwx) | (with_reducible refine all_isNR ?_; intro Ax kx cx hvx) | (with_reducible refine all_isNV ?_; intro Ax kx cx hvx) | (with_reducible refine all_isDV ?_; intro sx Ax kx cx hvx) | (with_reducible refine all_isWV ?_; intro sx Ax kx cx hvx) | (with_reducible refine all_isD ?_; intro sx Ax kx cx hvx hwx) | (with_reducible refine all_isRow ?_; intro gx' hbx) | (with_reducible refine all_isPtr ?_; intro gp' hbp hgp) | (with_reducible refine all_isRow1 ?_; intro gx' sr Ar kr cr hbx hvr))
      go_simp
      (with_reducible exact grow_of (float_d 1 u2 hu2.out (DB.dv (Lib.hid (HE.out.step hox)) 0 rfl) BZ (by omega) (Lib.hid (hT.out.keep (HE.out.step hox).only))))
    refine owes2_cons (fun wx hox => ?_) ?_
    · skip
      skip
      refine withs_plain rfl ?_
      simp only [withs, List.getElem?_cons_zero, List.getElem?_cons_succ, Option.bind, Option.getD]
      repeat (first | (with_reducible refine all_isV ?_) | (with_reducible refine all_isWC ?_; intro sx Ax kx cx hvx hwx) | (with_reducible refine all_isNR ?_; intro Ax kx cx hvx) | (with_reducible refine all_isNV ?_; intro Ax kx cx hvx) | (with_reducible refine all_isDV ?_; intro sx Ax kx cx hvx) | (with_reducible refine all_isWV ?_; intro sx Ax kx cx hvx) | (with_reducible refine all_isD ?_; intro sx Ax kx cx hvx hwx) | (with_reducible refine all_isRow ?_; intro gx' hbx) | (with_reducible refine all_isPtr ?_; intro gp' hbp hgp) | (with_reducible refine all_isRow1 ?_; intro gx' sr Ar kr cr hbx hvr))
      go_simp
      exact ⟨Only.refl _ _, isV.self _ _⟩
    refine owes2_cons (fun wx hox => ?_) ?_
    · skip
      skip
      refine withs_plain rfl ?_
      simp only [withs, List.getElem?_cons_zero, List.getElem?_cons_succ, Option.bind, Option.getD]
      repeat (first | (with_reducible refine all_isV ?_) | (with_reducible refine all_isWC ?_; intro sx Ax kx cx hvx hwx) | (with_reducible refine all_isNR ?_; intro Ax kx cx hvx) | (with_reducible refine all_isNV ?_; intro Ax kx cx hvx) | (with_reducible refine all_isDV ?_; intro sx Ax kx cx hvx) | (with_reducible refine all_isWV ?_; intro sx Ax kx cx hvx) | (with_reducible refine all_isD ?_; intro sx Ax kx cx hvx hwx) | (with_reducible refine all_isRow ?_; intro gx' hbx) | (with_reducible refine all_isPtr ?_; intro gp' hbp hgp) | (with_reducible refine all_isRow1 ?_; intro gx' sr Ar kr cr hbx hvr))
      go_simp
      exact ⟨Only.refl _ _, isV.self _ _⟩
    exact owes2_nil
  case he =>
    intro wx hox
    refine withs_of (by simp only [List.length, List.range, List.range.loop]; exact rfl) ?_
    simp only [withs, List.getElem?_cons_zero, List.getElem?_cons_succ, Option.bind, Option.getD]
    repeat (first | (with_reducible refine all_isV ?_) | (with_reducible refine all_isWC ?_; intro sx Ax kx cx hvx hwx) | (with_reducible refine all_isNR ?_; intro Ax kx cx hvx) | (with_reducible refine all_isNV ?_; intro Ax kx cx hvx) | (with_reducible refine all_isDV ?_; intro sx Ax kx cx hvx) | (with_reducible refine all_isWV ?_; intro sx Ax kx cx hvx) | (with_reducible refine all_isD ?_; intro sx Ax kx cx hvx hwx) | (with_reducible refine all_isRow ?_; intro gx' hbx) | (with_reducible refine all_isPtr ?_; intro gp' hbp hgp) | (with_reducible refine all_isRow1 ?_; intro gx' sr Ar kr cr hbx hvr))
    go_simp
    replace HE := Lib.hid (HE.out.step hox)
    clear hox
    cases f3
    · clear h12 ho1 ho2
      rcases hoc with ⟨rfl, rfl⟩ | ⟨rfl, rfl⟩ | ⟨rfl, rfl⟩
      · skip
        obtain ⟨i0, i1, i2, -, -, -⟩ := DB.cells HE 2 rfl
        obtain ⟨j0, j1, j2, -, -, -⟩ := DB.cells HE 1 rfl
        go_wp2_with fail
        (with_reducible refine (cmpV_d (x := x) (y := y) _ (DB.dv HE 2 rfl) (DB.dv HE 1 rfl) BX BY (by omega) HC.out).mono ?_)
        rintro e w5 ⟨rfl, ho⟩
        replace HE := Lib.hid (HE.out.step ho)
        clear ho i0 i1 i2 j0 j1 j2
        obtain ⟨i0, i1, i2, -, -, -⟩ := DB.cells HE 2 rfl
        obtain ⟨j0, j1, j2, -, -, -⟩ := DB.cells HE 1 rfl
        go_wp2_with fail
        (with_reducible refine (cmpV_d (x := x) (y := y) _ (DB.dv HE 2 rfl) (DB.dv HE 1 rfl) BX BY (by omega) HC.out).mono ?_)
        rintro e w5 ⟨rfl, ho⟩
        replace HE := Lib.hid (HE.out.step ho)
        clear ho i0 i1 i2 j0 j1 j2
        go_wp2_with fail
        (with_reducible refine (finite_any u3 HL3.out _).mono ?_)
        rw [HF3.out]
        rintro e w5 ⟨rfl, rfl⟩
        obtain ⟨i0, i1, i2, -, -, -⟩ := DB.cells HE 2 rfl
        go_wp2_with fail
        (with_reducible refine (rref_dV x HNX.out (DB.dv HE 2 rfl) BX (by omega)).mono ?_)
        rintro e w5 ⟨s7, A7, k7, c7, rfl, hc, hv, ho⟩
        replace HE := Lib.hid (HE.out.step ho)
        have HR7 := RD.of (x := x) (Lib.hid hv) (Lib.hid hc)
        clear hc hv ho i0 i1 i2
        go_wp2_with fail
        (with_reducible refine (rofV v s x HR.out HV.out HXD.out _).mono ?_)
        rintro e w5 ⟨s8, A8, k8, c8, rfl, hc, hv, ho⟩
        replace HE := Lib.hid (HE.out.step ho)
        replace HR7 := Lib.hid (HR7.out.only ho)
        have HR8 := RD.of (x := x) (Lib.hid hv) (Lib.hid hc)
        clear hc hv ho
        go_wp2_with fail
        (with_reducible refine (rsame_d HR7 HR8 CX BX BX (by omega) rfl).mono ?_)
        rintro e w5 ⟨rfl, ho⟩
        replace HE := Lib.hid (HE.out.step ho)
        clear ho
        go_wp2_with fail
        go_ret
        exact ⟨rfl, HE.out.only⟩
      · skip
        obtain ⟨i0, i1, i2, -, -, -⟩ := DB.cells HE 2 rfl
        obtain ⟨j0, j1, j2, -, -, -⟩ := DB.cells HE 1 rfl
        go_wp2_with fail
        (with_reducible refine (cmpV_d (x := x) (y := y) _ (DB.dv HE 2 rfl) (DB.dv HE 1 rfl) BX BY (by omega) HC.out).mono ?_)
        rintro e w5 ⟨rfl, ho⟩
        replace HE := Lib.hid (HE.out.step ho)
        clear ho i0 i1 i2 j0 j1 j2
        obtain ⟨i0, i1, i2, -, -, -⟩ := DB.cells HE 2 rfl
        obtain ⟨j0, j1, j2, -, -, -⟩ := DB.cells HE 1 rfl
        go_wp2_with fail
        (with_reducible refine (cmpV_d (x := x) (y := y) _ (DB.dv HE 2 rfl) (DB.dv HE 1 rfl) BX BY (by omega) HC.out).mono ?_)
        rintro e w5 ⟨rfl, ho⟩
        replace HE := Lib.hid (HE.out.step ho)
        clear ho i0 i1 i2 j0 j1 j2
        go_wp2_with fail
        (with_reducible refine (finite_any u3 HL3.out _).mono ?_)
        rw [HF3.out]
        rintro e w5 ⟨rfl, rfl⟩
        obtain ⟨i0, i1, i2, -, -, -⟩ := DB.cells HE 2 rfl
        go_wp2_with fail
        (with_reducible refine (rref_dV x HNX.out (DB.dv HE 2 rfl) BX (by omega)).mono ?_)
        rintro e w5 ⟨s7, A7, k7, c7, rfl, hc, hv, ho⟩
        replace HE := Lib.hid (HE.out.step ho)
        have HR7 := RD.of (x := x) (Lib.hid hv) (Lib.hid hc)
        clear hc hv ho i0 i1 i2
        go_wp2_with fail
        (with_reducible refine (rofV v s x HR.out HV.out HXD.out _).mono ?_)
        rintro e w5 ⟨s8, A8, k8, c8, rfl, hc, hv, ho⟩
        replace HE := Lib.hid (HE.out.step ho)
        replace HR7 := Lib.hid (HR7.out.only ho)
        have HR8 := RD.of (x := x) (Lib.hid hv) (Lib.hid hc)
        clear hc hv ho
        go_wp2_with fail
        (with_reducible refine (rsame_d HR7 HR8 CX BX BX (by omega) rfl).mono ?_)
        rintro e w5 ⟨rfl, ho⟩
        replace HE := Lib.hid (HE.out.step ho)
        clear ho
        go_wp2_with fail
        go_ret
        exact ⟨rfl, HE.out.only⟩
      · skip
        obtain ⟨i0, i1, i2, -, -, -⟩ := DB.cells HE 2 rfl
        obtain ⟨j0, j1, j2, -, -, -⟩ := DB.cells HE 1 rfl
        go_wp2_with fail
        (with_reducible refine (cmpV_d (x := x) (y := y) _ (DB.dv HE 2 rfl) (DB.dv HE 1 rfl) BX BY (by omega) HC.out).mono ?_)
        rintro e w5 ⟨rfl, ho⟩
        replace HE := Lib.hid (HE.out.step ho)
        clear ho i0 i1 i2 j0 j1 j2
        obtain ⟨i0, i1, i2, -, -, -⟩ := DB.cells HE 2 rfl
        obtain ⟨j0, j1, j2, -, -, -⟩ := DB.cells HE 1 rfl
        go_wp2_with fail
        (with_reducible refine (cmpV_d (x := x) (y := y) _ (DB.dv HE 2 rfl) (DB.dv HE 1 rfl) BX BY (by omega) HC.out).mono ?_)
        rintro e w5 ⟨rfl, ho⟩
        replace HE := Lib.hid (HE.out.step ho)
        clear ho i0 i1 i2 j0 j1 j2
        go_wp2_with fail
        (with_reducible refine (finite_any u3 HL3.out _).mono ?_)
        rw [HF3.out]
        rintro e w5 ⟨rfl, rfl⟩
        obtain ⟨i0, i1, i2, -, -, -⟩ := DB.cells HE 2 rfl
        go_wp2_with fail
        (with_reducible refine (rref_dV x HNX.out (DB.dv HE 2 rfl) BX (by omega)).mono ?_)
        rintro e w5 ⟨s7, A7, k7, c7, rfl, hc, hv, ho⟩
        replace HE := Lib.hid (HE.out.step ho)
        have HR7 := RD.of (x := x) (Lib.hid hv) (Lib.hid hc)
        clear hc hv ho i0 i1 i2
        go_wp2_with fail
        (with_reducible refine (rofV v s x HR.out HV.out HXD.out _).mono ?_)
        rintro e w5 ⟨s8, A8, k8, c8, rfl, hc, hv, ho⟩
        replace HE := Lib.hid (HE.out.step ho)
        replace HR7 := Lib.hid (HR7.out.only ho)
        have HR8 := RD.of (x := x) (Lib.hid hv) (Lib.hid hc)
        clear hc hv ho
        go_wp2_with fail
        (with_reducible refine (rsame_d HR7 HR8 CX BX BX (by omega) rfl).mono ?_)
        rintro e w5 ⟨rfl, ho⟩
        replace HE := Lib.hid (HE.out.step ho)
        clear ho
        go_wp2_with fail
        go_ret
        exact ⟨rfl, HE.out.only⟩
    · obtain ⟨h1, h2⟩ := h12 rfl
      clear h12
      rcases hoc with ⟨rfl, rfl⟩ | ⟨rfl, rfl⟩ | ⟨rfl, rfl⟩
      · skip
        obtain ⟨i0, i1, i2, -, -, -⟩ := DB.cells HE 2 rfl
        obtain ⟨j0, j1, j2, -, -, -⟩ := DB.cells HE 1 rfl
        go_wp2_with fail
        (with_reducible refine (cmpV_d (x := x) (y := y) _ (DB.dv HE 2 rfl) (DB.dv HE 1 rfl) BX BY (by omega) HC.out).mono ?_)
        rintro e w5 ⟨rfl, ho⟩
        replace HE := Lib.hid (HE.out.step ho)
        clear ho i0 i1 i2 j0 j1 j2
        obtain ⟨i0, i1, i2, -, -, -⟩ := DB.cells HE 2 rfl
        obtain ⟨j0, j1, j2, -, -, -⟩ := DB.cells HE 1 rfl
        go_wp2_with fail
        (with_reducible refine (cmpV_d (x := x) (y := y) _ (DB.dv HE 2 rfl) (DB.dv HE 1 rfl) BX BY (by omega) HC.out).mono ?_)
        rintro e w5 ⟨rfl, ho⟩
        replace HE := Lib.hid (HE.out.step ho)
        clear ho i0 i1 i2 j0 j1 j2
        go_wp2_with fail
        (with_reducible refine (finite_any u3 HL3.out _).mono ?_)
        rw [HF3.out]
        rintro e w5 ⟨rfl, rfl⟩
        obtain ⟨i0, i1, i2, -, -, -⟩ := DB.cells HE 2 rfl
        go_wp2_with fail
        (with_reducible refine (rref_dV x HNX.out (DB.dv HE 2 rfl) BX (by omega)).mono ?_)
        rintro e w5 ⟨s7, A7, k7, c7, rfl, hc, hv, ho⟩
        replace HE := Lib.hid (HE.out.step ho)
        have HR7 := RD.of (x := x) (Lib.hid hv) (Lib.hid hc)
        clear hc hv ho i0 i1 i2
        go_wp2_with fail
        (with_reducible refine (rofV v s x HR.out HV.out HXD.out _).mono ?_)
        rintro e w5 ⟨s8, A8, k8, c8, rfl, hc, hv, ho⟩
        replace HE := Lib.hid (HE.out.step ho)
        replace HR7 := Lib.hid (HR7.out.only ho)
        have HR8 := RD.of (x := x) (Lib.hid hv) (Lib.hid hc)
        clear hc hv ho
        go_wp2_with fail
        (with_reducible refine (rsame_d HR7 HR8 CX BX BX (by omega) rfl).mono ?_)
        rintro e w5 ⟨rfl, ho⟩
        replace HE := Lib.hid (HE.out.step ho)
        clear ho
        go_wp2_with fail
        go_ret
        exact ⟨rfl, HE.out.only⟩
      · skip
        obtain ⟨i0, i1, i2, -, -, -⟩ := DB.cells HE 2 rfl
        obtain ⟨j0, j1, j2, -, -, -⟩ := DB.cells HE 1 rfl
        go_wp2_with fail
        (with_reducible refine (cmpV_d (x := x) (y := y) _ (DB.dv HE 2 rfl) (DB.dv HE 1 rfl) BX BY (by omega) HC.out).mono ?_)
        rintro e w5 ⟨rfl, ho⟩
        replace HE := Lib.hid (HE.out.step ho)
        clear ho i0 i1 i2 j0 j1 j2
        obtain ⟨i0, i1, i2, -, -, -⟩ := DB.cells HE 2 rfl
        obtain ⟨j0, j1, j2, -, -, -⟩ := DB.cells HE 1 rfl
        go_wp2_with fail
        (with_reducible refine (cmpV_d (x := x) (y := y) _ (DB.dv HE 2 rfl) (DB.dv HE 1 rfl) BX BY (by omega) HC.out).mono ?_)
        rintro e w5 ⟨rfl, ho⟩
        replace HE := Lib.hid (HE.out.step ho)
        clear ho i0 i1 i2 j0 j1 j2
        go_wp2_with fail
        (with_reducible refine (finite_any u3 HL3.out _).mono ?_)
        rw [HF3.out]
        rintro e w5 ⟨rfl, rfl⟩
        obtain ⟨i0, i1, i2, -, -, -⟩ := DB.cells HE 2 rfl
        go_wp2_with fail
        (with_reducible refine (rref_dV x HNX.out (DB.dv HE 2 rfl) BX (by omega)).mono ?_)
        rintro e w5 ⟨s7, A7, k7, c7, rfl, hc, hv, ho⟩
        replace HE := Lib.hid (HE.out.step ho)
        have HR7 := RD.of (x := x) (Lib.hid hv) (Lib.hid hc)
        clear hc hv ho i0 i1 i2
        go_wp2_with fail
        (with_reducible refine (rofV v s x HR.out HV.out HXD.out _).mono ?_)
        rintro e w5 ⟨s8, A8, k8, c8, rfl, hc, hv, ho⟩
        replace HE := Lib.hid (HE.out.step ho)
        replace HR7 := Lib.hid (HR7.out.only ho)
        have HR8 := RD.of (x := x) (Lib.hid hv) (Lib.hid hc)
        clear hc hv ho
        go_wp2_with fail
        (with_reducible refine (rsame_d HR7 HR8 CX BX BX (by omega) rfl).mono ?_)
        rintro e w5 ⟨rfl, ho⟩
        replace HE := Lib.hid (HE.out.step ho)
        clear ho
        go_wp2_with fail
        go_ret
        exact ⟨rfl, HE.out.only⟩
      · skip
        obtain ⟨i0, i1, i2, -, -, -⟩ := DB.cells HE 2 rfl
        obtain ⟨j0, j1, j2, -, -, -⟩ := DB.cells HE 1 rfl
        go_wp2_with fail
        (with_reducible refine (cmpV_d (x := x) (y := y) _ (DB.dv HE 2 rfl) (DB.dv HE 1 rfl) BX BY (by omega) HC.out).mono ?_)
        rintro e w5 ⟨rfl, ho⟩
        replace HE := Lib.hid (HE.out.step ho)
        clear ho i0 i1 i2 j0 j1 j2
        obtain ⟨i0, i1, i2, -, -, -⟩ := DB.cells HE 2 rfl
        obtain ⟨j0, j1, j2, -, -, -⟩ := DB.cells HE 1 rfl
        go_wp2_with fail
        (with_reducible refine (cmpV_d (x := x) (y := y) _ (DB.dv HE 2 rfl) (DB.dv HE 1 rfl) BX BY (by omega) HC.out).mono ?_)
        rintro e w5 ⟨rfl, ho⟩
        replace HE := Lib.hid (HE.out.step ho)
        clear ho i0 i1 i2 j0 j1 j2
        go_wp2_with fail
        (with_reducible refine (finite_any u3 HL3.out _).mono ?_)
        rw [HF3.out]
        rintro e w5 ⟨rfl, rfl⟩
        obtain ⟨i0, i1, i2, -, -, -⟩ := DB.cells HE 2 rfl
        go_wp2_with fail
        (with_reducible refine (rref_dV x HNX.out (DB.dv HE 2 rfl) BX (by omega)).mono ?_)
        rintro e w5 ⟨s7, A7, k7, c7, rfl, hc, hv, ho⟩
        replace HE := Lib.hid (HE.out.step ho)
        have HR7 := RD.of (x := x) (Lib.hid hv) (Lib.hid hc)
        clear hc hv ho i0 i1 i2
        go_wp2_with fail
        (with_reducible refine (rofV v s x HR.out HV.out HXD.out _).mono ?_)
        rintro e w5 ⟨s8, A8, k8, c8, rfl, hc, hv, ho⟩
        replace HE := Lib.hid (HE.out.step ho)
        replace HR7 := Lib.hid (HR7.out.only ho)
        have HR8 := RD.of (x := x) (Lib.hid hv) (Lib.hid hc)
        clear hc hv ho
        go_wp2_with fail
        (with_reducible refine (rsame_d HR7 HR8 CX BX BX (by omega) rfl).mono ?_)
        rintro e w5 ⟨rfl, ho⟩
        replace HE := Lib.hid (HE.out.step ho)
        clear ho
        go_wp2_with fail
        go_ret
        exact ⟨rfl, HE.out.only⟩
  case hl =>
    repeat (refine List.forall_mem_cons.2 ⟨?_, ?_⟩; first | exact isV.lasts _ | exact isD.lasts _ | exact isNV.lasts _ | exact isDV.lasts _ | exact isWV.lasts _ | exact isWC.lasts _ | exact isNR.lasts _ _ | exact isWR.lasts _ _ | exact isRow.lasts _ _ _ | exact isPtr.lasts _ _ _ | exact isRow1.lasts _)
    exact fun _ h => (by cases h)
theorem floOrders_any (v y : Nat) (w : World) (hv : (Lit.float .f64 v).wf = true) (hy : (Lit.float .f64 y).wf = true) (htab : Tab w) (hT : Tab6 w) : Calls Tryd.prog 11 #[.float .f64 v, .float .f64 y] w fun e w' => e = .returned (.bool true) ∧ Only [] w w' := by
  have hv : v < 18446744073709551616 := by have : v < 2 ^ 64 := by simpa [Lit.wf] using hv
                                           omega
  have hy : y < 18446744073709551616 := by have : y < 2 ^ 64 := by simpa [Lit.wf] using hy
                                           omega
  obtain ⟨s, r, rfl, hr⟩ := word_split hv
  obtain ⟨t, q, rfl, hq⟩ := word_split hy
  by_cases h1 : r < INF
  · by_cases h2 : q < INF
    · obtain ⟨c, ρ, a1, a2, a3⟩ := add_law s t h1 h2
      obtain ⟨i, j, b1, b2, b3⟩ : ∃ u1 u2, flW false (dAdd (fD s r) (fD t q)) = u1 ∧ flW true (dAdd (fD s r) (fD t q)) = u2 ∧ (finB (wordB c ρ) = true → ∃ o1 o2, FloatKind.f64.format.order u1 (wordB c ρ) = o1 ∧ FloatKind.f64.format.order (wordB c ρ) u2 = o2 ∧ (o1 == some .lt || o1 == some .eq) = true ∧ (o2 == some .lt || o2 == some .eq) = true) := by
        refine ⟨_, _, rfl, rfl, fun hf => ?_⟩
        rw [fin_word c (by rw [inf_val] at a2; omega), decide_eq_true_eq] at hf
        obtain ⟨a, i, b, j, e1, e2, e3, e4, e5, e6⟩ := a3 hf
        rw [e1, e2]
        obtain ⟨o1, f1, f2⟩ := le_ord e3 a2 e5
        obtain ⟨o2, f3, f4⟩ := le_ord a2 e4 e6
        exact ⟨o1, o2, f1, f3, f2, f4⟩
      refine ford_in s t r q _ _ i j (wordB c ρ) _ _ _ _ (compare (sg s r) (sg t q)) _ _ _ w (Lib.hid htab) (Lib.hid hT) (Lib.hid h1) (Lib.hid h2) (Lib.hid rfl) (Lib.hid rfl) (Lib.hid rfl) (Lib.hid rfl) (Lib.hid rfl) (Lib.hid b1) (Lib.hid b2) a1 (Lib.hid rfl) (Lib.hid (word_lt c (by rw [inf_val] at a2; omega))) (ord_is s t r q (by omega) (by omega) _ rfl) (Lib.hid (cmp_val s t r q)) ?_ rfl rfl (fun hf => ?_)
      · cases compare (sg s r) (sg t q) <;> simp
      · obtain ⟨o1, o2, g1, g2, g3, g4⟩ := b3 hf
        rw [g1, g2]
        exact ⟨g3, g4⟩
    · exact ford_out _ _ w (Lib.hid htab) (Lib.hid hT) hv hy (.inr ⟨finN s h1, finF t (by omega) hq⟩)
  · exact ford_out _ _ w (Lib.hid htab) (Lib.hid hT) hv hy (.inl (finF s (by omega) hr))

end Fl
end Go.Proofs.YtgiejjpemhceiaaDoor
