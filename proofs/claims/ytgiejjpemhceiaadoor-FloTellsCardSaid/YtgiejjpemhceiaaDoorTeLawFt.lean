/-
  FloTells: the walk.
-/
import Derived.Test.YtgiejjpemhceiaaDoorTeFlU
import Derived.Test.YtgiejjpemhceiaaDoorTeFlW
import Derived.Test.YtgiejjpemhceiaaDoorTeFlD
import Derived.Test.YtgiejjpemhceiaaDoorTeFlY
import Derived.WalkLawsBesides
import Derived.Test.YtgiejjpemhceiaaDoorTeIs3
import Derived.Test.YtgiejjpemhceiaaDoorTeDyQ
import Derived.Test.YtgiejjpemhceiaaDoorTeLawDyA
namespace Go.Proofs.YtgiejjpemhceiaaDoor
set_option linter.unusedSimpArgs false
open Go.RowKit
namespace Fl
theorem rref_dV {w : World} {a : Value} {x : Dy} {N : Nat} (r : Dy) (hr : nrm x.z x.e = r) (ha : Hid (DV w a x)) (bx : Hid (Bnd N x)) (hN : N ≤ 8000000) : Calls Tryd.prog 35 #[a] w (RDP r w) := hr ▸ rref_d ha bx hN
theorem finiteV (v : Nat) (f : Bool) (hv : v < 18446744073709551616) (hf : finB v = f) (w : World) : Calls Tryd.prog 14 #[.float .f64 v] w fun e w' => e = .returned (.bool f) ∧ w = w' := hf ▸ finite_any v hv w
theorem rfiniteV (v : Nat) (f : Bool) (hv : v < 18446744073709551616) (hf : finB v = f) (w : World) : Calls Tryd.prog 46 #[.float .f64 v] w fun e w' => e = .returned (.bool f) ∧ w = w' := hf ▸ rfinite_any v hv w
set_option maxHeartbeats 1600000 in
set_option maxRecDepth 100000 in
theorem sameV (v : Nat) (b : Bool) (hb : (FloatKind.f64.format.order v v == some .eq) = b) (w : World) : Calls Tryd.prog 47 #[.float .f64 v, .float .f64 v] w fun e w' => e = .returned (.bool true) ∧ w = w' := by
  cases b
  · have hb2 : (FloatKind.f64.format.order v v != some .eq) = true := by rw [bne, hb]; rfl
    go_enter Tryd.func47, Tryd.ntmps47
    go_wp2_with fail
    go_ret
    exact ⟨rfl, rfl⟩
  · go_enter Tryd.func47, Tryd.ntmps47
    go_wp2_with fail
    go_ret
    exact ⟨rfl, rfl⟩
theorem can_zero0 : Hid (Can ⟨0, 0⟩) := .inl ⟨rfl, rfl⟩
theorem rd_zero0 (w : World) : RD w (.agg #[.bool false, .slice none 0 0, .int .i64 0]) ⟨0, 0⟩ := ⟨false, none, 0, 0, rfl, ⟨by decide, by show 0 = (R.limbsOf 0).length; rw [R.limbsOf_zero]; rfl⟩, RV.nil _⟩
set_option maxHeartbeats 8000000 in
set_option maxRecDepth 100000 in
theorem ftells_out (n1 : Bool) (A1 : Option Addr) (L1 : List Nat) (c1 : Nat) (e1 : Int) (v : Nat) (dir : Int) (w : World) (htab : Hid (Tab w)) (hT : Hid (Tab6 w)) (hl : lightN [⟨n1, A1, L1.length, c1, e1⟩] = false) : Calls Tryd.prog 6 #[.float .f64 v, .agg #[.bool n1, .slice A1 L1.length c1, .int .i64 e1], .int .i64 dir] w fun e w' => e = .returned (.bool true) ∧ Only [] w w' := by
  have HL := Lib.hid hl
  clear hl
  have hlv := light3_v (w := w.alloc (.cells #[.bool n1, .slice A1 L1.length c1, .int .i64 e1] 48)) [⟨n1, A1, L1.length, c1, e1⟩] 1 (Lib.hid rfl) (by omega)
  rw [HL.out] at hlv
  simp only [flatN, List.flatMap_cons, List.flatMap_nil, List.cons_append, List.nil_append, World.size_alloc] at hlv
  have hk := (KB.start w).new 48 [.bool n1, .slice A1 L1.length c1, .int .i64 e1]
  have HK := Lib.hid hk
  have HLV := Lib.hid hlv
  clear hlv hk HL
  obtain ⟨i0, i1, i2, -, -, -⟩ := HK.out.c3 0 rfl
  go_enter Tryd.func6, Tryd.ntmps6
  go_wp2_with fail
  (with_reducible refine HLV.out.mono ?_)
  rintro e w1 ⟨rfl, ho⟩
  replace HK := Lib.hid (HK.out.step ho)
  clear ho i0 i1 i2
  go_wp2_with fail
  (with_reducible refine (alive4_any _ (Lib.hid (htab.out.only HK.out.only)) (Lib.hid (hT.out.keep HK.out.only))).mono ?_)
  rintro e w2 ⟨rfl, ho⟩
  replace HK := Lib.hid (HK.out.step ho)
  clear ho
  go_wp2_with fail
  go_ret
  exact ⟨rfl, HK.out.only⟩
set_option maxHeartbeats 8000000 in
set_option maxRecDepth 100000 in
theorem ftells_no (n1 : Bool) (A1 : Option Addr) (L1 : List Nat) (c1 : Nat) (x rr : Dy) (s : Bool) (r v u1 u2 : Nat) (b1 b2 : Bool) (dir : Int) (w : World) (N : Nat) (HZ1 : Hid (sg n1 (val L1) = x.z)) (H1 : Hid (LimbsIn w A1 L1)) (hl1 : (L1.length : Int) ≤ 40) (he1 : -3000 ≤ x.e ∧ x.e ≤ 3000) (BX : Hid (Bnd N x)) (BR : Hid (Bnd N rr)) (hN : N ≤ 8000) (HRR : Hid (nrm x.z x.e = rr)) (_ : Hid (wordB s r = v)) (HLV2 : Hid (v < 18446744073709551616))
    (HST : Hid (∀ w : World, Calls Tryd.prog 48 #[.float .f64 v, .int .i64 dir] w fun e w' => e = .returned (.float .f64 u1) ∧ w = w')) (HSQ : Hid (∀ w : World, Calls Tryd.prog 49 #[.float .f64 v, .int .i64 dir] w fun e w' => e = .returned (.float .f64 u1) ∧ w = w')) (HS1 : (FloatKind.f64.format.order u1 u1 == some .eq) = b1) (HS2 : (FloatKind.f64.format.order u2 u2 == some .eq) = b2)
    (HF2 : Hid (flW (decide (0 ≤ dir)) x = u2)) (HQ2 : Hid (flW (decide (0 ≤ dir)) rr = u2)) (htab : Hid (Tab w)) (hT : Hid (Tab6 w))
    (HFV : Hid (finB v = false)) (HDY : Hid (∀ w : World, Calls Tryd.prog 45 #[.float .f64 v] w (QDPost ⟨0, 0⟩ false w))) (HZR : Hid (∀ w : World, Hid (RD w (.agg #[.bool false, .slice none 0 0, .int .i64 0]) ⟨0, 0⟩))) : Calls Tryd.prog 6 #[.float .f64 v, .agg #[.bool n1, .slice A1 L1.length c1, .int .i64 x.e], .int .i64 dir] w fun e w' => e = .returned (.bool true) ∧ Only [] w w' := by
  have HL : Hid (lightN [⟨n1, A1, L1.length, c1, x.e⟩] = true) := by
    show _ = _
    simp only [lightN, List.all_cons, List.all_nil, NR.ok, Bool.and_true, Bool.and_eq_true, decide_eq_true_eq]
    omega
  have hlv := light3_v (w := w.alloc (.cells #[.bool n1, .slice A1 L1.length c1, .int .i64 x.e] 48)) [⟨n1, A1, L1.length, c1, x.e⟩] 1 (Lib.hid rfl) (by omega)
  rw [HL.out] at hlv
  simp only [flatN, List.flatMap_cons, List.flatMap_nil, List.cons_append, List.nil_append, World.size_alloc] at hlv
  have hk := (KB.start w).new 48 [.bool n1, .slice A1 L1.length c1, .int .i64 x.e]
  have HK := Lib.hid hk
  have HLV := Lib.hid hlv
  replace H1 := Lib.hid (H1.out.only hk.only)
  clear hlv hk HL he1
  obtain ⟨i0, i1, i2, -, -, -⟩ := HK.out.c3 0 rfl
  go_enter Tryd.func6, Tryd.ntmps6
  go_wp2_with fail
  (with_reducible refine HLV.out.mono ?_)
  rintro e w1 ⟨rfl, ho⟩
  replace HK := Lib.hid (HK.out.step ho)
  replace H1 := Lib.hid (H1.out.only ho)
  clear ho i0 i1 i2
  go_wp2_with fail
  (with_reducible refine (alive4_any _ (Lib.hid (htab.out.only HK.out.only)) (Lib.hid (hT.out.keep HK.out.only))).mono ?_)
  rintro e w2 ⟨rfl, ho⟩
  replace HK := Lib.hid (HK.out.step ho)
  replace H1 := Lib.hid (H1.out.only ho)
  clear ho
  obtain ⟨i0, i1, i2, -, -, -⟩ := HK.out.c3 0 rfl
  go_wp2_with fail
  (with_reducible refine (numOfV_any n1 A1 L1 c1 x _ HZ1.out H1 hl1).mono ?_)
  rintro e w3 ⟨s3, A3, k3, c3, rfl, hv, ho⟩
  have ha := (Only.refl [] w3).alloc (.cells #[.bool s3, .slice A3 k3 c3, .int .i64 x.e] 37)
  have HX := Lib.hid (hv.only ha)
  have hk := (HK.out.step ho).new 37 [.bool s3, .slice A3 k3 c3, .int .i64 x.e]
  replace HK := Lib.hid hk
  clear hv ho ha hk i0 i1 i2 H1
  obtain ⟨i0, i1, i2, -, -, -⟩ := HK.out.c3 0 rfl
  go_wp2_with fail
  (with_reducible refine (rref_dV rr HRR.out (DV.of HX) BX (by omega)).mono ?_)
  rintro e w4 ⟨s4, A4, k4, c4, rfl, hc, hv, ho⟩
  have ha := (Only.refl [] w4).alloc (.cells #[.bool s4, .slice A4 k4 c4, .int .i64 rr.e] 31)
  have HRD := RD.of (x := rr) (Lib.hid (hv.only ha)) (Lib.hid hc)
  have hk := (HK.out.step ho).new 31 [.bool s4, .slice A4 k4 c4, .int .i64 rr.e]
  replace HX := Lib.hid ((HX.out.only ho).only ha)
  replace HK := Lib.hid hk
  clear hv ho ha hk hc i0 i1 i2
  go_wp2_with fail
  (with_reducible refine (HDY.out _).mono ?_)
  rintro e w5 ⟨s5, A5, k5, c5, rfl, hs5, hk5, hv, ho⟩
  have ha := (Only.refl [] w5).alloc (.cells #[.bool s5, .slice A5 k5 c5, .int .i64 0] 37)
  have HY := Lib.hid (hv.only ha)
  have HC5 : Hid (Cn s5 k5 (Dy.mk 0 0).z) := ⟨hs5, hk5⟩
  have hk := (HK.out.step ho).new 37 [.bool s5, .slice A5 k5 c5, .int .i64 0]
  replace HX := Lib.hid ((HX.out.only ho).only ha)
  replace HRD := Lib.hid ((HRD.out.only ho).only ha)
  replace HK := Lib.hid hk
  clear hv ho ha hk hs5 hk5
  go_upto_region 6 with fail
  generalize w5.heap.size = g5 at *
  generalize w4.heap.size = g4 at *
  generalize w3.heap.size = g3 at *
  generalize w5.alloc _ = w6 at *
  apply wp_region_typed2 (by kernel_rfl) [isV _, isV _, isV _, isV _, isV _, isV _, isV _, isV _, isV _, isV _, isV _, isV _, isV _, isV _, isV _, isV _, isV _, isV _, isV _, isV _, isV _, isV _, isV _, isV _, isV _, isV _, isV _, isV _, isV _, isV _] [[], [], [1], [0, 2], [3], [4], [4, 5], [4], [4, 6, 7], [4, 8], [9], [10], [10], [10, 11, 12], [10], [10], [10, 14, 15], [10, 13, 16], [10, 17], [10, 18], [19], [20], [20], [20, 21, 22], [20], [20], [20, 24, 25], [20, 23, 26], [20, 27], [20, 28]] (by kernel_rfl) (by kernel_rfl)
  case ho =>
    iterate 2
      refine owes2_cons (fun wx hox => ?_) ?_
      · skip
        refine withs_plain rfl ?_
        simp only [withs, List.getElem?_cons_zero, List.getElem?_cons_succ, Option.bind, Option.getD]
        repeat (with_reducible refine all_isV ?_)
        go_simp
        exact ⟨Only.refl _ _, isV.self _ _⟩
    refine owes2_cons (fun wx hox => ?_) ?_
    · skip
      refine withs_plain rfl ?_
      simp only [withs, List.getElem?_cons_zero, List.getElem?_cons_succ, Option.bind, Option.getD]
      repeat (with_reducible refine all_isV ?_)
      go_simp
      (with_reducible exact grow_same (rfiniteV v false HLV2.out HFV.out _))
    iterate 2
      refine owes2_cons (fun wx hox => ?_) ?_
      · skip
        refine withs_plain rfl ?_
        simp only [withs, List.getElem?_cons_zero, List.getElem?_cons_succ, Option.bind, Option.getD]
        repeat (with_reducible refine all_isV ?_)
        go_simp
        exact ⟨Only.refl _ _, isV.self _ _⟩
    refine owes2_cons (fun wx hox => ?_) ?_
    · skip
      refine withs_guard rfl rfl ?_
      simp only [withs, List.getElem?_cons_zero, List.getElem?_cons_succ, Option.bind, Option.getD]
      repeat (with_reducible refine all_isV ?_)
      refine ⟨by kernel_rfl, ?_⟩
      go_simp
      exact ⟨Only.refl _ _, isV.self _ _⟩
    refine owes2_cons (fun wx hox => ?_) ?_
    · skip
      refine withs_guard rfl rfl ?_
      simp only [withs, List.getElem?_cons_zero, List.getElem?_cons_succ, Option.bind, Option.getD]
      repeat (with_reducible refine all_isV ?_)
      refine ⟨by kernel_rfl, ?_⟩
      go_simp
      (with_reducible exact grow_same (finiteV v false HLV2.out HFV.out _))
    iterate 2
      refine owes2_cons (fun wx hox => ?_) ?_
      · skip
        refine withs_guard rfl rfl ?_
        simp only [withs, List.getElem?_cons_zero, List.getElem?_cons_succ, Option.bind, Option.getD]
        repeat (with_reducible refine all_isV ?_)
        refine ⟨by kernel_rfl, ?_⟩
        go_simp
        exact ⟨Only.refl _ _, isV.self _ _⟩
    iterate 2
      refine owes2_cons (fun wx hox => ?_) ?_
      · skip
        refine withs_plain rfl ?_
        simp only [withs, List.getElem?_cons_zero, List.getElem?_cons_succ, Option.bind, Option.getD]
        repeat (with_reducible refine all_isV ?_)
        go_simp
        exact ⟨Only.refl _ _, isV.self _ _⟩
    iterate 2
      refine owes2_cons (fun wx hox => ?_) ?_
      · skip
        refine withs_guard rfl rfl ?_
        simp only [withs, List.getElem?_cons_zero, List.getElem?_cons_succ, Option.bind, Option.getD]
        repeat (with_reducible refine all_isV ?_)
        refine ⟨by kernel_rfl, ?_⟩
        go_simp
        exact ⟨Only.refl _ _, isV.self _ _⟩
    refine owes2_cons (fun wx hox => ?_) ?_
    · skip
      refine withs_guard rfl rfl ?_
      simp only [withs, List.getElem?_cons_zero, List.getElem?_cons_succ, Option.bind, Option.getD]
      repeat (with_reducible refine all_isV ?_)
      refine ⟨by kernel_rfl, ?_⟩
      go_simp
      (with_reducible exact grow_same (HST.out _))
    iterate 2
      refine owes2_cons (fun wx hox => ?_) ?_
      · skip
        refine withs_guard rfl rfl ?_
        simp only [withs, List.getElem?_cons_zero, List.getElem?_cons_succ, Option.bind, Option.getD]
        repeat (with_reducible refine all_isV ?_)
        refine ⟨by kernel_rfl, ?_⟩
        go_simp
        exact ⟨Only.refl _ _, isV.self _ _⟩
    refine owes2_cons (fun wx hox => ?_) ?_
    · skip
      refine withs_guard rfl rfl ?_
      simp only [withs, List.getElem?_cons_zero, List.getElem?_cons_succ, Option.bind, Option.getD]
      repeat (with_reducible refine all_isV ?_)
      refine ⟨by kernel_rfl, ?_⟩
      go_simp
      (with_reducible exact grow_same (HSQ.out _))
    refine owes2_cons (fun wx hox => ?_) ?_
    · skip
      refine withs_guard rfl rfl ?_
      simp only [withs, List.getElem?_cons_zero, List.getElem?_cons_succ, Option.bind, Option.getD]
      repeat (with_reducible refine all_isV ?_)
      refine ⟨by kernel_rfl, ?_⟩
      go_simp
      (with_reducible exact grow_same (sameV u1 b1 HS1 _))
    refine owes2_cons (fun wx hox => ?_) ?_
    · skip
      refine withs_guard rfl rfl ?_
      simp only [withs, List.getElem?_cons_zero, List.getElem?_cons_succ, Option.bind, Option.getD]
      repeat (with_reducible refine all_isV ?_)
      refine ⟨by kernel_rfl, ?_⟩
      go_simp
      exact ⟨Only.refl _ _, isV.self _ _⟩
    iterate 2
      refine owes2_cons (fun wx hox => ?_) ?_
      · skip
        refine withs_plain rfl ?_
        simp only [withs, List.getElem?_cons_zero, List.getElem?_cons_succ, Option.bind, Option.getD]
        repeat (with_reducible refine all_isV ?_)
        go_simp
        exact ⟨Only.refl _ _, isV.self _ _⟩
    refine owes2_cons (fun wx hox => ?_) ?_
    · skip
      have hk := HK.out.step hox
      obtain ⟨i0, i1, i2, -, -, -⟩ := hk.c3 2 rfl
      clear hk
      refine withs_guard rfl rfl ?_
      simp only [withs, List.getElem?_cons_zero, List.getElem?_cons_succ, Option.bind, Option.getD]
      repeat (with_reducible refine all_isV ?_)
      refine ⟨by kernel_rfl, ?_⟩
      go_simp
      exact ⟨Only.refl _ _, isV.self _ _⟩
    refine owes2_cons (fun wx hox => ?_) ?_
    · skip
      refine withs_guard rfl rfl ?_
      simp only [withs, List.getElem?_cons_zero, List.getElem?_cons_succ, Option.bind, Option.getD]
      repeat (with_reducible refine all_isV ?_)
      refine ⟨by kernel_rfl, ?_⟩
      go_simp
      exact ⟨Only.refl _ _, isV.self _ _⟩
    refine owes2_cons (fun wx hox => ?_) ?_
    · skip
      refine withs_guard rfl rfl ?_
      simp only [withs, List.getElem?_cons_zero, List.getElem?_cons_succ, Option.bind, Option.getD]
      repeat (with_reducible refine all_isV ?_)
      refine ⟨by kernel_rfl, ?_⟩
      go_simp
      (with_reducible exact grow_of (float_d dir u2 HF2.out (DV.of (Lib.hid (HX.out.only hox))) BX (by omega) (Lib.hid (hT.out.keep (HK.out.step hox).only))))
    refine owes2_cons (fun wx hox => ?_) ?_
    · skip
      have hk := HK.out.step hox
      obtain ⟨i0, i1, i2, -, -, -⟩ := hk.c3 1 rfl
      clear hk
      refine withs_guard rfl rfl ?_
      simp only [withs, List.getElem?_cons_zero, List.getElem?_cons_succ, Option.bind, Option.getD]
      repeat (with_reducible refine all_isV ?_)
      refine ⟨by kernel_rfl, ?_⟩
      go_simp
      exact ⟨Only.refl _ _, isV.self _ _⟩
    refine owes2_cons (fun wx hox => ?_) ?_
    · skip
      refine withs_guard rfl rfl ?_
      simp only [withs, List.getElem?_cons_zero, List.getElem?_cons_succ, Option.bind, Option.getD]
      repeat (with_reducible refine all_isV ?_)
      refine ⟨by kernel_rfl, ?_⟩
      go_simp
      exact ⟨Only.refl _ _, isV.self _ _⟩
    refine owes2_cons (fun wx hox => ?_) ?_
    · skip
      refine withs_guard rfl rfl ?_
      simp only [withs, List.getElem?_cons_zero, List.getElem?_cons_succ, Option.bind, Option.getD]
      repeat (with_reducible refine all_isV ?_)
      refine ⟨by kernel_rfl, ?_⟩
      go_simp
      (with_reducible exact grow_of (rfloat_d dir u2 HQ2.out (Lib.hid (HRD.out.only hox)) BR (by omega)))
    refine owes2_cons (fun wx hox => ?_) ?_
    · skip
      refine withs_guard rfl rfl ?_
      simp only [withs, List.getElem?_cons_zero, List.getElem?_cons_succ, Option.bind, Option.getD]
      repeat (with_reducible refine all_isV ?_)
      refine ⟨by kernel_rfl, ?_⟩
      go_simp
      (with_reducible exact grow_same (sameV u2 b2 HS2 _))
    refine owes2_cons (fun wx hox => ?_) ?_
    · skip
      refine withs_guard rfl rfl ?_
      simp only [withs, List.getElem?_cons_zero, List.getElem?_cons_succ, Option.bind, Option.getD]
      repeat (with_reducible refine all_isV ?_)
      refine ⟨by kernel_rfl, ?_⟩
      go_simp
      exact ⟨Only.refl _ _, isV.self _ _⟩
    refine owes2_cons (fun wx hox => ?_) ?_
    · skip
      refine withs_plain rfl ?_
      simp only [withs, List.getElem?_cons_zero, List.getElem?_cons_succ, Option.bind, Option.getD]
      repeat (with_reducible refine all_isV ?_)
      go_simp
      exact ⟨Only.refl _ _, isV.self _ _⟩
    exact owes2_nil
  case he =>
    intro wx hox
    refine withs_of (by simp only [List.length, List.range, List.range.loop]; exact rfl) ?_
    simp only [withs, List.getElem?_cons_zero, List.getElem?_cons_succ, Option.bind, Option.getD]
    repeat (with_reducible refine all_isV ?_)
    go_simp
    replace HK := Lib.hid (HK.out.step hox)
    replace HX := Lib.hid (HX.out.only hox)
    replace HY := Lib.hid (HY.out.only hox)
    clear hox HRD
    obtain ⟨i0, i1, i2, -, -, -⟩ := HK.out.c3 0 rfl
    go_wp2_with fail
    (with_reducible refine (is3_d (Lib.hid (isD.of (x := ⟨0, 0⟩) HY HC5)) (HZR.out _) can_zero0 (Lib.hid (bnd_zero 4)) (by omega)).mono ?_)
    rintro e w9 ⟨rfl, ho⟩
    replace HK := Lib.hid (HK.out.step ho)
    clear ho i0 i1 i2
    go_wp2_with fail
    go_ret
    exact ⟨rfl, HK.out.only⟩
  case hl =>
    repeat (refine List.forall_mem_cons.2 ⟨?_, ?_⟩; exact isV.lasts _)
    exact fun _ h => (by cases h)
set_option maxHeartbeats 8000000 in
set_option maxRecDepth 100000 in
theorem ftells_yes (n1 : Bool) (A1 : Option Addr) (L1 : List Nat) (c1 : Nat) (x rr : Dy) (s : Bool) (r v u1 u2 : Nat) (b1 b2 : Bool) (dir : Int) (w : World) (N : Nat) (HZ1 : Hid (sg n1 (val L1) = x.z)) (H1 : Hid (LimbsIn w A1 L1)) (hl1 : (L1.length : Int) ≤ 40) (he1 : -3000 ≤ x.e ∧ x.e ≤ 3000) (BX : Hid (Bnd N x)) (BR : Hid (Bnd N rr)) (hN : N ≤ 8000) (HRR : Hid (nrm x.z x.e = rr)) (HV : Hid (wordB s r = v)) (HLV2 : Hid (v < 18446744073709551616))
    (HST : Hid (∀ w : World, Calls Tryd.prog 48 #[.float .f64 v, .int .i64 dir] w fun e w' => e = .returned (.float .f64 u1) ∧ w = w')) (HSQ : Hid (∀ w : World, Calls Tryd.prog 49 #[.float .f64 v, .int .i64 dir] w fun e w' => e = .returned (.float .f64 u1) ∧ w = w')) (HS1 : (FloatKind.f64.format.order u1 u1 == some .eq) = b1) (HS2 : (FloatKind.f64.format.order u2 u2 == some .eq) = b2)
    (HF2 : Hid (flW (decide (0 ≤ dir)) x = u2)) (HQ2 : Hid (flW (decide (0 ≤ dir)) rr = u2)) (htab : Hid (Tab w)) (hT : Hid (Tab6 w))
    (y : Dy) (u3 : Nat) (nd : Int) (HFV : Hid (finB v = true)) (HR : Hid (r < INF)) (HYD : Hid (fD s r = y)) (BY : Hid (Bnd N y)) (CY : Hid (Can y)) (hnd : IntKind.i64.wrap (-dir) = nd) (HF3 : Hid (flW (decide (0 ≤ dir)) y = u3)) (HF4 : Hid (flW (decide (0 ≤ nd)) y = u3)) (HEQ : (FloatKind.f64.format.order u3 v == some .eq) = true) : Calls Tryd.prog 6 #[.float .f64 v, .agg #[.bool n1, .slice A1 L1.length c1, .int .i64 x.e], .int .i64 dir] w fun e w' => e = .returned (.bool true) ∧ Only [] w w' := by
  have HL : Hid (lightN [⟨n1, A1, L1.length, c1, x.e⟩] = true) := by
    show _ = _
    simp only [lightN, List.all_cons, List.all_nil, NR.ok, Bool.and_true, Bool.and_eq_true, decide_eq_true_eq]
    omega
  have hlv := light3_v (w := w.alloc (.cells #[.bool n1, .slice A1 L1.length c1, .int .i64 x.e] 48)) [⟨n1, A1, L1.length, c1, x.e⟩] 1 (Lib.hid rfl) (by omega)
  rw [HL.out] at hlv
  simp only [flatN, List.flatMap_cons, List.flatMap_nil, List.cons_append, List.nil_append, World.size_alloc] at hlv
  have hk := (KB.start w).new 48 [.bool n1, .slice A1 L1.length c1, .int .i64 x.e]
  have HK := Lib.hid hk
  have HLV := Lib.hid hlv
  replace H1 := Lib.hid (H1.out.only hk.only)
  clear hlv hk HL he1
  obtain ⟨i0, i1, i2, -, -, -⟩ := HK.out.c3 0 rfl
  go_enter Tryd.func6, Tryd.ntmps6
  go_wp2_with fail
  (with_reducible refine HLV.out.mono ?_)
  rintro e w1 ⟨rfl, ho⟩
  replace HK := Lib.hid (HK.out.step ho)
  replace H1 := Lib.hid (H1.out.only ho)
  clear ho i0 i1 i2
  go_wp2_with fail
  (with_reducible refine (alive4_any _ (Lib.hid (htab.out.only HK.out.only)) (Lib.hid (hT.out.keep HK.out.only))).mono ?_)
  rintro e w2 ⟨rfl, ho⟩
  replace HK := Lib.hid (HK.out.step ho)
  replace H1 := Lib.hid (H1.out.only ho)
  clear ho
  obtain ⟨i0, i1, i2, -, -, -⟩ := HK.out.c3 0 rfl
  go_wp2_with fail
  (with_reducible refine (numOfV_any n1 A1 L1 c1 x _ HZ1.out H1 hl1).mono ?_)
  rintro e w3 ⟨s3, A3, k3, c3, rfl, hv, ho⟩
  have ha := (Only.refl [] w3).alloc (.cells #[.bool s3, .slice A3 k3 c3, .int .i64 x.e] 37)
  have HX := Lib.hid (hv.only ha)
  have hk := (HK.out.step ho).new 37 [.bool s3, .slice A3 k3 c3, .int .i64 x.e]
  replace HK := Lib.hid hk
  clear hv ho ha hk i0 i1 i2 H1
  obtain ⟨i0, i1, i2, -, -, -⟩ := HK.out.c3 0 rfl
  go_wp2_with fail
  (with_reducible refine (rref_dV rr HRR.out (DV.of HX) BX (by omega)).mono ?_)
  rintro e w4 ⟨s4, A4, k4, c4, rfl, hc, hv, ho⟩
  have ha := (Only.refl [] w4).alloc (.cells #[.bool s4, .slice A4 k4 c4, .int .i64 rr.e] 31)
  have HRD := RD.of (x := rr) (Lib.hid (hv.only ha)) (Lib.hid hc)
  have hk := (HK.out.step ho).new 31 [.bool s4, .slice A4 k4 c4, .int .i64 rr.e]
  replace HX := Lib.hid ((HX.out.only ho).only ha)
  replace HK := Lib.hid hk
  clear hv ho ha hk hc i0 i1 i2
  go_wp2_with fail
  (with_reducible refine (fl_dyadV v s y HR.out HV.out HYD.out _ (Lib.hid (hT.out.keep HK.out.only))).mono ?_)
  rintro e w5 ⟨s5, A5, k5, c5, rfl, hs5, hk5, hv, ho⟩
  have ha := (Only.refl [] w5).alloc (.cells #[.bool s5, .slice A5 k5 c5, .int .i64 y.e] 37)
  have HY := Lib.hid (hv.only ha)
  have HC5 : Hid (Cn s5 k5 y.z) := ⟨hs5, hk5⟩
  have hk := (HK.out.step ho).new 37 [.bool s5, .slice A5 k5 c5, .int .i64 y.e]
  replace HX := Lib.hid ((HX.out.only ho).only ha)
  replace HRD := Lib.hid ((HRD.out.only ho).only ha)
  replace HK := Lib.hid hk
  clear hv ho ha hk hs5 hk5
  go_upto_region 6 with fail
  generalize w5.heap.size = g5 at *
  generalize w4.heap.size = g4 at *
  generalize w3.heap.size = g3 at *
  generalize w5.alloc _ = w6 at *
  apply wp_region_typed2 (by kernel_rfl) [isV _, isV _, isV _, isV _, isV _, isV _, isV _, isV _, isV _, isV _, isV _, isV _, isV _, isV _, isV _, isV _, isV _, isV _, isV _, isV _, isV _, isV _, isV _, isV _, isV _, isV _, isV _, isV _, isV _, isV _] [[], [], [1], [0, 2], [3], [4], [4, 5], [4], [4, 6, 7], [4, 8], [9], [10], [10], [10, 11, 12], [10], [10], [10, 14, 15], [10, 13, 16], [10, 17], [10, 18], [19], [20], [20], [20, 21, 22], [20], [20], [20, 24, 25], [20, 23, 26], [20, 27], [20, 28]] (by kernel_rfl) (by kernel_rfl)
  case ho =>
    iterate 2
      refine owes2_cons (fun wx hox => ?_) ?_
      · skip
        refine withs_plain rfl ?_
        simp only [withs, List.getElem?_cons_zero, List.getElem?_cons_succ, Option.bind, Option.getD]
        repeat (with_reducible refine all_isV ?_)
        go_simp
        exact ⟨Only.refl _ _, isV.self _ _⟩
    refine owes2_cons (fun wx hox => ?_) ?_
    · skip
      refine withs_plain rfl ?_
      simp only [withs, List.getElem?_cons_zero, List.getElem?_cons_succ, Option.bind, Option.getD]
      repeat (with_reducible refine all_isV ?_)
      go_simp
      (with_reducible exact grow_same (rfiniteV v true HLV2.out HFV.out _))
    iterate 2
      refine owes2_cons (fun wx hox => ?_) ?_
      · skip
        refine withs_plain rfl ?_
        simp only [withs, List.getElem?_cons_zero, List.getElem?_cons_succ, Option.bind, Option.getD]
        repeat (with_reducible refine all_isV ?_)
        go_simp
        exact ⟨Only.refl _ _, isV.self _ _⟩
    refine owes2_cons (fun wx hox => ?_) ?_
    · skip
      refine withs_guard rfl rfl ?_
      simp only [withs, List.getElem?_cons_zero, List.getElem?_cons_succ, Option.bind, Option.getD]
      repeat (with_reducible refine all_isV ?_)
      refine ⟨by kernel_rfl, ?_⟩
      go_simp
      exact ⟨Only.refl _ _, isV.self _ _⟩
    refine owes2_cons (fun wx hox => ?_) ?_
    · skip
      refine withs_guard rfl rfl ?_
      simp only [withs, List.getElem?_cons_zero, List.getElem?_cons_succ, Option.bind, Option.getD]
      repeat (with_reducible refine all_isV ?_)
      refine ⟨by kernel_rfl, ?_⟩
      go_simp
      (with_reducible exact grow_same (finiteV v true HLV2.out HFV.out _))
    iterate 2
      refine owes2_cons (fun wx hox => ?_) ?_
      · skip
        refine withs_guard rfl rfl ?_
        simp only [withs, List.getElem?_cons_zero, List.getElem?_cons_succ, Option.bind, Option.getD]
        repeat (with_reducible refine all_isV ?_)
        refine ⟨by kernel_rfl, ?_⟩
        go_simp
        exact ⟨Only.refl _ _, isV.self _ _⟩
    iterate 2
      refine owes2_cons (fun wx hox => ?_) ?_
      · skip
        refine withs_plain rfl ?_
        simp only [withs, List.getElem?_cons_zero, List.getElem?_cons_succ, Option.bind, Option.getD]
        repeat (with_reducible refine all_isV ?_)
        go_simp
        exact ⟨Only.refl _ _, isV.self _ _⟩
    iterate 2
      refine owes2_cons (fun wx hox => ?_) ?_
      · skip
        refine withs_guard rfl rfl ?_
        simp only [withs, List.getElem?_cons_zero, List.getElem?_cons_succ, Option.bind, Option.getD]
        repeat (with_reducible refine all_isV ?_)
        refine ⟨by kernel_rfl, ?_⟩
        go_simp
        exact ⟨Only.refl _ _, isV.self _ _⟩
    refine owes2_cons (fun wx hox => ?_) ?_
    · skip
      refine withs_guard rfl rfl ?_
      simp only [withs, List.getElem?_cons_zero, List.getElem?_cons_succ, Option.bind, Option.getD]
      repeat (with_reducible refine all_isV ?_)
      refine ⟨by kernel_rfl, ?_⟩
      go_simp
      (with_reducible exact grow_same (HST.out _))
    iterate 2
      refine owes2_cons (fun wx hox => ?_) ?_
      · skip
        refine withs_guard rfl rfl ?_
        simp only [withs, List.getElem?_cons_zero, List.getElem?_cons_succ, Option.bind, Option.getD]
        repeat (with_reducible refine all_isV ?_)
        refine ⟨by kernel_rfl, ?_⟩
        go_simp
        exact ⟨Only.refl _ _, isV.self _ _⟩
    refine owes2_cons (fun wx hox => ?_) ?_
    · skip
      refine withs_guard rfl rfl ?_
      simp only [withs, List.getElem?_cons_zero, List.getElem?_cons_succ, Option.bind, Option.getD]
      repeat (with_reducible refine all_isV ?_)
      refine ⟨by kernel_rfl, ?_⟩
      go_simp
      (with_reducible exact grow_same (HSQ.out _))
    refine owes2_cons (fun wx hox => ?_) ?_
    · skip
      refine withs_guard rfl rfl ?_
      simp only [withs, List.getElem?_cons_zero, List.getElem?_cons_succ, Option.bind, Option.getD]
      repeat (with_reducible refine all_isV ?_)
      refine ⟨by kernel_rfl, ?_⟩
      go_simp
      (with_reducible exact grow_same (sameV u1 b1 HS1 _))
    refine owes2_cons (fun wx hox => ?_) ?_
    · skip
      refine withs_guard rfl rfl ?_
      simp only [withs, List.getElem?_cons_zero, List.getElem?_cons_succ, Option.bind, Option.getD]
      repeat (with_reducible refine all_isV ?_)
      refine ⟨by kernel_rfl, ?_⟩
      go_simp
      exact ⟨Only.refl _ _, isV.self _ _⟩
    iterate 2
      refine owes2_cons (fun wx hox => ?_) ?_
      · skip
        refine withs_plain rfl ?_
        simp only [withs, List.getElem?_cons_zero, List.getElem?_cons_succ, Option.bind, Option.getD]
        repeat (with_reducible refine all_isV ?_)
        go_simp
        exact ⟨Only.refl _ _, isV.self _ _⟩
    refine owes2_cons (fun wx hox => ?_) ?_
    · skip
      have hk := HK.out.step hox
      obtain ⟨i0, i1, i2, -, -, -⟩ := hk.c3 2 rfl
      clear hk
      refine withs_guard rfl rfl ?_
      simp only [withs, List.getElem?_cons_zero, List.getElem?_cons_succ, Option.bind, Option.getD]
      repeat (with_reducible refine all_isV ?_)
      refine ⟨by kernel_rfl, ?_⟩
      go_simp
      exact ⟨Only.refl _ _, isV.self _ _⟩
    refine owes2_cons (fun wx hox => ?_) ?_
    · skip
      refine withs_guard rfl rfl ?_
      simp only [withs, List.getElem?_cons_zero, List.getElem?_cons_succ, Option.bind, Option.getD]
      repeat (with_reducible refine all_isV ?_)
      refine ⟨by kernel_rfl, ?_⟩
      go_simp
      exact ⟨Only.refl _ _, isV.self _ _⟩
    refine owes2_cons (fun wx hox => ?_) ?_
    · skip
      refine withs_guard rfl rfl ?_
      simp only [withs, List.getElem?_cons_zero, List.getElem?_cons_succ, Option.bind, Option.getD]
      repeat (with_reducible refine all_isV ?_)
      refine ⟨by kernel_rfl, ?_⟩
      go_simp
      (with_reducible exact grow_of (float_d dir u2 HF2.out (DV.of (Lib.hid (HX.out.only hox))) BX (by omega) (Lib.hid (hT.out.keep (HK.out.step hox).only))))
    refine owes2_cons (fun wx hox => ?_) ?_
    · skip
      have hk := HK.out.step hox
      obtain ⟨i0, i1, i2, -, -, -⟩ := hk.c3 1 rfl
      clear hk
      refine withs_guard rfl rfl ?_
      simp only [withs, List.getElem?_cons_zero, List.getElem?_cons_succ, Option.bind, Option.getD]
      repeat (with_reducible refine all_isV ?_)
      refine ⟨by kernel_rfl, ?_⟩
      go_simp
      exact ⟨Only.refl _ _, isV.self _ _⟩
    refine owes2_cons (fun wx hox => ?_) ?_
    · skip
      refine withs_guard rfl rfl ?_
      simp only [withs, List.getElem?_cons_zero, List.getElem?_cons_succ, Option.bind, Option.getD]
      repeat (with_reducible refine all_isV ?_)
      refine ⟨by kernel_rfl, ?_⟩
      go_simp
      exact ⟨Only.refl _ _, isV.self _ _⟩
    refine owes2_cons (fun wx hox => ?_) ?_
    · skip
      refine withs_guard rfl rfl ?_
      simp only [withs, List.getElem?_cons_zero, List.getElem?_cons_succ, Option.bind, Option.getD]
      repeat (with_reducible refine all_isV ?_)
      refine ⟨by kernel_rfl, ?_⟩
      go_simp
      (with_reducible exact grow_of (rfloat_d dir u2 HQ2.out (Lib.hid (HRD.out.only hox)) BR (by omega)))
    refine owes2_cons (fun wx hox => ?_) ?_
    · skip
      refine withs_guard rfl rfl ?_
      simp only [withs, List.getElem?_cons_zero, List.getElem?_cons_succ, Option.bind, Option.getD]
      repeat (with_reducible refine all_isV ?_)
      refine ⟨by kernel_rfl, ?_⟩
      go_simp
      (with_reducible exact grow_same (sameV u2 b2 HS2 _))
    refine owes2_cons (fun wx hox => ?_) ?_
    · skip
      refine withs_guard rfl rfl ?_
      simp only [withs, List.getElem?_cons_zero, List.getElem?_cons_succ, Option.bind, Option.getD]
      repeat (with_reducible refine all_isV ?_)
      refine ⟨by kernel_rfl, ?_⟩
      go_simp
      exact ⟨Only.refl _ _, isV.self _ _⟩
    refine owes2_cons (fun wx hox => ?_) ?_
    · skip
      refine withs_plain rfl ?_
      simp only [withs, List.getElem?_cons_zero, List.getElem?_cons_succ, Option.bind, Option.getD]
      repeat (with_reducible refine all_isV ?_)
      go_simp
      exact ⟨Only.refl _ _, isV.self _ _⟩
    exact owes2_nil
  case he =>
    intro wx hox
    refine withs_of (by simp only [List.length, List.range, List.range.loop]; exact rfl) ?_
    simp only [withs, List.getElem?_cons_zero, List.getElem?_cons_succ, Option.bind, Option.getD]
    repeat (with_reducible refine all_isV ?_)
    go_simp
    replace HK := Lib.hid (HK.out.step hox)
    replace HX := Lib.hid (HX.out.only hox)
    replace HY := Lib.hid (HY.out.only hox)
    clear hox HRD
    go_upto_region 10 with fail
    apply wp_region_typed2 (by kernel_rfl) [isV _, isV _, isRD y, isV _, isV _, isV _, isV _, isV _, isV _, isV _, isV _, isV _, isV _, isV _, isV _, isV _, isV _, isV _, isV _, isV _] [[], [], [1], [0, 2], [3], [4], [4], [4, 5, 6], [4], [4, 7, 8], [4, 9], [10], [11], [11], [11, 13], [11, 12, 14], [11], [11, 15, 16], [11, 17], [18]] (by kernel_rfl) (by kernel_rfl)
    case ho =>
      refine owes2_cons (fun wx hox => ?_) ?_
      · skip
        have hk := HK.out.step hox
        obtain ⟨i0, i1, i2, -, -, -⟩ := hk.c3 0 rfl
        clear hk
        refine withs_plain rfl ?_
        simp only [withs, List.getElem?_cons_zero, List.getElem?_cons_succ, Option.bind, Option.getD]
        repeat (first | (with_reducible refine all_isV ?_) | (with_reducible refine all_isRD ?_; intro sx Ax kx cx hvx hwx))
        go_simp
        exact ⟨Only.refl _ _, isV.self _ _⟩
      refine owes2_cons (fun wx hox => ?_) ?_
      · skip
        refine withs_plain rfl ?_
        simp only [withs, List.getElem?_cons_zero, List.getElem?_cons_succ, Option.bind, Option.getD]
        repeat (first | (with_reducible refine all_isV ?_) | (with_reducible refine all_isRD ?_; intro sx Ax kx cx hvx hwx))
        go_simp
        exact ⟨Only.refl _ _, isV.self _ _⟩
      refine owes2_cons (fun wx hox => ?_) ?_
      · skip
        refine withs_plain rfl ?_
        simp only [withs, List.getElem?_cons_zero, List.getElem?_cons_succ, Option.bind, Option.getD]
        repeat (first | (with_reducible refine all_isV ?_) | (with_reducible refine all_isRD ?_; intro sx Ax kx cx hvx hwx))
        go_simp
        (with_reducible exact grow_rd (rofV v s y HR.out HV.out HYD.out _))
      refine owes2_cons (fun wx hox => ?_) ?_
      · skip
        refine withs_plain rfl ?_
        simp only [withs, List.getElem?_cons_zero, List.getElem?_cons_succ, Option.bind, Option.getD]
        repeat (first | (with_reducible refine all_isV ?_) | (with_reducible refine all_isRD ?_; intro sx Ax kx cx hvx hwx))
        go_simp
        (with_reducible exact grow_of (is3_d (Lib.hid (isD.of (Lib.hid (HY.out.only hox)) HC5)) (RD.of (by assumption) (by assumption)) CY BY (by omega)))
      refine owes2_cons (fun wx hox => ?_) ?_
      · skip
        refine withs_plain rfl ?_
        simp only [withs, List.getElem?_cons_zero, List.getElem?_cons_succ, Option.bind, Option.getD]
        repeat (first | (with_reducible refine all_isV ?_) | (with_reducible refine all_isRD ?_; intro sx Ax kx cx hvx hwx))
        go_simp
        exact ⟨Only.refl _ _, isV.self _ _⟩
      refine owes2_cons (fun wx hox => ?_) ?_
      · skip
        have hk := HK.out.step hox
        obtain ⟨i0, i1, i2, -, -, -⟩ := hk.c3 0 rfl
        clear hk
        refine withs_guard rfl rfl ?_
        simp only [withs, List.getElem?_cons_zero, List.getElem?_cons_succ, Option.bind, Option.getD]
        repeat (first | (with_reducible refine all_isV ?_) | (with_reducible refine all_isRD ?_; intro sx Ax kx cx hvx hwx))
        refine ⟨by kernel_rfl, ?_⟩
        go_simp
        exact ⟨Only.refl _ _, isV.self _ _⟩
      refine owes2_cons (fun wx hox => ?_) ?_
      · skip
        refine withs_guard rfl rfl ?_
        simp only [withs, List.getElem?_cons_zero, List.getElem?_cons_succ, Option.bind, Option.getD]
        repeat (first | (with_reducible refine all_isV ?_) | (with_reducible refine all_isRD ?_; intro sx Ax kx cx hvx hwx))
        refine ⟨by kernel_rfl, ?_⟩
        go_simp
        exact ⟨Only.refl _ _, isV.self _ _⟩
      refine owes2_cons (fun wx hox => ?_) ?_
      · skip
        refine withs_guard rfl rfl ?_
        simp only [withs, List.getElem?_cons_zero, List.getElem?_cons_succ, Option.bind, Option.getD]
        repeat (first | (with_reducible refine all_isV ?_) | (with_reducible refine all_isRD ?_; intro sx Ax kx cx hvx hwx))
        refine ⟨by kernel_rfl, ?_⟩
        go_simp
        (with_reducible exact grow_of (float_d dir u3 HF3.out (DV.of (Lib.hid (HY.out.only hox))) BY (by omega) (Lib.hid (hT.out.keep (HK.out.step hox).only))))
      iterate 2
        refine owes2_cons (fun wx hox => ?_) ?_
        · skip
          refine withs_guard rfl rfl ?_
          simp only [withs, List.getElem?_cons_zero, List.getElem?_cons_succ, Option.bind, Option.getD]
          repeat (first | (with_reducible refine all_isV ?_) | (with_reducible refine all_isRD ?_; intro sx Ax kx cx hvx hwx))
          refine ⟨by kernel_rfl, ?_⟩
          go_simp
          exact ⟨Only.refl _ _, isV.self _ _⟩
      iterate 2
        refine owes2_cons (fun wx hox => ?_) ?_
        · skip
          refine withs_plain rfl ?_
          simp only [withs, List.getElem?_cons_zero, List.getElem?_cons_succ, Option.bind, Option.getD]
          repeat (first | (with_reducible refine all_isV ?_) | (with_reducible refine all_isRD ?_; intro sx Ax kx cx hvx hwx))
          go_simp
          exact ⟨Only.refl _ _, isV.self _ _⟩
      refine owes2_cons (fun wx hox => ?_) ?_
      · skip
        have hk := HK.out.step hox
        obtain ⟨i0, i1, i2, -, -, -⟩ := hk.c3 0 rfl
        clear hk
        refine withs_guard rfl rfl ?_
        simp only [withs, List.getElem?_cons_zero, List.getElem?_cons_succ, Option.bind, Option.getD]
        repeat (first | (with_reducible refine all_isV ?_) | (with_reducible refine all_isRD ?_; intro sx Ax kx cx hvx hwx))
        refine ⟨by kernel_rfl, ?_⟩
        go_simp
        exact ⟨Only.refl _ _, isV.self _ _⟩
      iterate 2
        refine owes2_cons (fun wx hox => ?_) ?_
        · skip
          refine withs_guard rfl rfl ?_
          simp only [withs, List.getElem?_cons_zero, List.getElem?_cons_succ, Option.bind, Option.getD]
          repeat (first | (with_reducible refine all_isV ?_) | (with_reducible refine all_isRD ?_; intro sx Ax kx cx hvx hwx))
          refine ⟨by kernel_rfl, ?_⟩
          go_simp
          exact ⟨Only.refl _ _, isV.self _ _⟩
      refine owes2_cons (fun wx hox => ?_) ?_
      · skip
        refine withs_guard rfl rfl ?_
        simp only [withs, List.getElem?_cons_zero, List.getElem?_cons_succ, Option.bind, Option.getD]
        repeat (first | (with_reducible refine all_isV ?_) | (with_reducible refine all_isRD ?_; intro sx Ax kx cx hvx hwx))
        refine ⟨by kernel_rfl, ?_⟩
        go_simp
        (with_reducible exact grow_of (float_d nd u3 HF4.out (DV.of (Lib.hid (HY.out.only hox))) BY (by omega) (Lib.hid (hT.out.keep (HK.out.step hox).only))))
      iterate 2
        refine owes2_cons (fun wx hox => ?_) ?_
        · skip
          refine withs_guard rfl rfl ?_
          simp only [withs, List.getElem?_cons_zero, List.getElem?_cons_succ, Option.bind, Option.getD]
          repeat (first | (with_reducible refine all_isV ?_) | (with_reducible refine all_isRD ?_; intro sx Ax kx cx hvx hwx))
          refine ⟨by kernel_rfl, ?_⟩
          go_simp
          exact ⟨Only.refl _ _, isV.self _ _⟩
      iterate 2
        refine owes2_cons (fun wx hox => ?_) ?_
        · skip
          refine withs_plain rfl ?_
          simp only [withs, List.getElem?_cons_zero, List.getElem?_cons_succ, Option.bind, Option.getD]
          repeat (first | (with_reducible refine all_isV ?_) | (with_reducible refine all_isRD ?_; intro sx Ax kx cx hvx hwx))
          go_simp
          exact ⟨Only.refl _ _, isV.self _ _⟩
      exact owes2_nil
    case he =>
      intro wx hox
      refine withs_of (by simp only [List.length, List.range, List.range.loop]; exact rfl) ?_
      simp only [withs, List.getElem?_cons_zero, List.getElem?_cons_succ, Option.bind, Option.getD]
      repeat (first | (with_reducible refine all_isV ?_) | (with_reducible refine all_isRD ?_; intro sx Ax kx cx hvx hwx))
      go_simp
      replace HK := Lib.hid (HK.out.step hox)
      clear hox
      go_wp2_with fail
      go_ret
      exact ⟨rfl, HK.out.only⟩
    case hl =>
      repeat (refine List.forall_mem_cons.2 ⟨?_, ?_⟩; first | exact isV.lasts _ | exact isRD.lasts _)
      exact fun _ h => (by cases h)
  case hl =>
    repeat (refine List.forall_mem_cons.2 ⟨?_, ?_⟩; exact isV.lasts _)
    exact fun _ h => (by cases h)

theorem bnd_wordF (s : Bool) (r : Nat) {N : Nat} (hN : 4000 ≤ N) (h : r ≤ INF) : Bnd N (fD s r) := by
  have h2 := inf_val
  unfold fD
  exact bnd_nrm (K := 53) (M := 2000) (by rw [sg_abs]; have := mant_lt r; omega) (by unfold expoW; omega) (by unfold expoW; omega) (by omega)
theorem flW_q {up : Bool} {x y : Dy} (hx : nrm x.z x.e = y) : flW up y = flW up x := by
  have hq : y.q = x.q := by rw [← hx]; exact nrm_q _ _
  by_cases hz : x.z = 0
  · have hz' : y.z = 0 := q_zero.1 (by rw [hq]; exact q_zero.2 hz)
    unfold flW
    rw [if_pos hz, if_pos hz']
  · have hz' : y.z ≠ 0 := fun h => hz (q_zero.1 (by rw [← hq]; exact q_zero.2 h))
    have hn : decide (y.z < 0) = decide (x.z < 0) := decide_eq_decide.2 ⟨fun h => q_neg.1 (by rw [← hq]; exact q_neg.2 h), fun h => q_neg.1 (by rw [hq]; exact q_neg.2 h)⟩
    have ha : aq y = aq x := by rw [aq_q, aq_q, hn, hq]
    obtain ⟨f, ex, hb, hw⟩ := flW_spec up hz
    obtain ⟨f', ex', hb', hw'⟩ := flW_spec up hz'
    have hb2 : Beside y f ex := ⟨by rw [ha]; exact hb.lo, by rw [ha]; exact hb.hi, by rw [ha]; exact hb.ex⟩
    obtain ⟨e1, e2⟩ := hb'.one hb2
    subst e1 e2
    rw [hw, hw', hn]
set_option maxRecDepth 100000 in
theorem floTells_any (v : Nat) (n1 : Bool) (A1 : Option Addr) (c1 : Nat) (L1 : List Nat) (e1 : Int) (dir : Int) (w : World) (hv0 : (Lit.float .f64 v).wf = true) (h1 : LimbsIn w A1 L1) (_ : L1.length ≤ c1) (_ : c1 ≤ maxLen) (_ : -9223372036854775808 ≤ e1 ∧ e1 ≤ 9223372036854775807) (_ : (Lit.int .i64 dir).wf = true) (htab : Tab w) (hT : Tab6 w) :
    Calls Tryd.prog 6 #[.float .f64 v, .agg #[.bool n1, .slice A1 L1.length c1, .int .i64 e1], .int .i64 dir] w fun e w' => e = .returned (.bool true) ∧ Only [] w w' := by
  have hv : v < 18446744073709551616 := by
    have := hv0
    simp only [Lit.wf, decide_eq_true_eq] at this
    exact this
  cases hl : lightN [⟨n1, A1, L1.length, c1, e1⟩] with
  | false => exact ftells_out n1 A1 L1 c1 e1 v dir w (Lib.hid htab) (Lib.hid hT) hl
  | true =>
    simp only [lightN, List.all_cons, List.all_nil, NR.ok, Bool.and_true, Bool.and_eq_true, decide_eq_true_eq] at hl
    have hI := inf_val
    obtain ⟨x, hx⟩ : ∃ x : Dy, x = ⟨sg n1 (val L1), e1⟩ := ⟨_, rfl⟩
    have hxe : x.e = e1 := by rw [hx]
    have hxz : sg n1 (val L1) = x.z := by rw [hx]
    obtain ⟨K, hK⟩ : ∃ K : Nat, K = 4000 := ⟨_, rfl⟩
    have BX : Bnd K x := num_bnd (by omega) (by omega) h1.2 hxz (by omega) (by omega)
    obtain ⟨rr, hrr⟩ : ∃ d, nrm x.z x.e = d := ⟨_, rfl⟩
    have BR : Bnd (2 * K) rr := by rw [← hrr]; exact BX.norm (Nat.le_refl _)
    obtain ⟨s, r, hsr, hr⟩ := word_split hv
    have hst : ∀ w : World, Calls Tryd.prog 48 #[.float .f64 v, .int .i64 dir] w fun e w' => e = .returned (.float .f64 (stepW (decide (0 ≤ dir)) s r)) ∧ w = w' := fun w => by rw [hsr]; exact step_any s hr dir _ rfl w
    have hsq : ∀ w : World, Calls Tryd.prog 49 #[.float .f64 v, .int .i64 dir] w fun e w' => e = .returned (.float .f64 (stepW (decide (0 ≤ dir)) s r)) ∧ w = w' := fun w => by rw [hsr]; exact rstep_any s hr dir _ rfl w
    have hq := flW_q (up := decide (0 ≤ dir)) hrr
    rw [← hxe]
    by_cases hf : r < INF
    · have hz : (0 : Nat) = wordB false 0 := rfl
      obtain ⟨u3, g1, g2⟩ : ∃ u3, (∀ up, flW up (fD s r) = u3) ∧ (FloatKind.f64.format.order u3 v == some .eq) = true := by
        by_cases h0 : r = 0
        · refine ⟨0, fun up => ?_, ?_⟩
          · unfold flW
            rw [if_pos]
            apply q_zero.1
            rw [fD_val, h0, ru_zero]
            cases s <;> simp
          · show (Ieee.double.order _ _ == _) = true
            rw [hsr, h0, hz, ord_rung false s (by omega) (by omega), cmp_beq, decide_eq_true_eq, compare_eq_iff]
            cases s <;> rfl
        · refine ⟨wordB s r, fun up => flW_back up s hf h0, ?_⟩
          show (Ieee.double.order _ _ == _) = true
          rw [hsr, ord_rung s s (by omega) (by omega), cmp_beq, decide_eq_true_eq, compare_eq_iff]
      exact ftells_yes (N := 2 * K) n1 A1 L1 c1 x rr s r v _ _ _ _ dir w (Lib.hid hxz) (Lib.hid h1) (by omega) (by omega) (Lib.hid (BX.mono (by omega))) (Lib.hid BR) (by omega) (Lib.hid hrr) (Lib.hid hsr.symm) (Lib.hid hv) (Lib.hid hst) (Lib.hid hsq) rfl rfl (Lib.hid rfl) (Lib.hid hq) (Lib.hid htab) (Lib.hid hT)
        (fD s r) u3 _ (Lib.hid (by rw [hsr]; exact finN s hf)) (Lib.hid hf) (Lib.hid rfl) (Lib.hid (bnd_wordF s r (by omega) (by omega))) (Lib.hid (fD_can s r)) rfl (Lib.hid (g1 _)) (Lib.hid (g1 _)) g2
    · have hfv : finB v = false := by rw [hsr]; exact finF s (by omega) hr
      exact ftells_no (N := 2 * K) n1 A1 L1 c1 x rr s r v _ _ _ _ dir w (Lib.hid hxz) (Lib.hid h1) (by omega) (by omega) (Lib.hid (BX.mono (by omega))) (Lib.hid BR) (by omega) (Lib.hid hrr) (Lib.hid hsr.symm) (Lib.hid hv) (Lib.hid hst) (Lib.hid hsq) rfl rfl (Lib.hid rfl) (Lib.hid hq) (Lib.hid htab) (Lib.hid hT)
        (Lib.hid hfv) (Lib.hid fun w => by rw [hsr]; exact fl_dyad_no s (by omega) hr w) (Lib.hid fun w => Lib.hid (rd_zero0 w))

end Fl
end Go.Proofs.YtgiejjpemhceiaaDoor
