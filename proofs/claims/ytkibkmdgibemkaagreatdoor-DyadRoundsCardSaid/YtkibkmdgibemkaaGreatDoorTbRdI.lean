/-
  The reference's dyads: Sqrt.
-/
import Derived.Test.YtkibkmdgibemkaaGreatDoorTbRdH
namespace Go.Proofs.YtkibkmdgibemkaaGreatDoor
set_option linter.unusedSimpArgs false
open Go.RowKit
theorem rmulV_v {w : World} {a b : Value} {m n : Nat} (r : Nat) (hr : m * n = r) (ha : Hid (RV w a m)) (hb : Hid (RV w b n)) (hfa : Hid (Few m)) (hfb : Hid (Few n)) : Calls Tryz.prog 21 #[a, b] w (RPost r w) := hr ▸ rmul_v ha hb hfa hfb
theorem rsqrtV_v {w : World} {a : Value} {m : Nat} (r : Nat) (hr : rootN m = r) (ha : Hid (RV w a m)) (hf : Hid (Few m)) : Calls Tryz.prog 130 #[a] w (RPost r w) := hr ▸ rsqrt_v ha hf
theorem rcmpV_v {w : World} {a b : Value} {m n : Nat} (r : Int) (ha : Hid (RV w a m)) (hb : Hid (RV w b n)) (hfa : Hid (Few m)) (hfb : Hid (Few n)) (hr : cmpZ m n = r) : Calls Tryz.prog 18 #[a, b] w fun e w' => e = .returned (.int .i64 r) ∧ Only [] w w' := hr ▸ rcmp_v ha hb hfa hfb
set_option maxHeartbeats 8000000 in
set_option maxRecDepth 100000 in
theorem rdsqrt_even {w : World} {s : Bool} {A : Option Addr} {k c X K : Nat} {x : Dy} (p dir : Int) (P bX n0 n X2 rr sq : Nat) (p1 p2 p3 r0 e1 e2 cz : Int) (rest : Bool) (r : Dy) (HP : Hid (widthP p = P)) (HBX : Hid (bitsN X = bX)) (hW1 : IntKind.i64.wrap (2 * (P : Int)) = p1) (hW2 : IntKind.i64.wrap (p1 + 4) = p2) (hW3 : IntKind.i64.wrap (p2 - (bX : Int)) = p3) (hmax : max p3 0 = (n0 : Int)) (hr0 : (r0 == 0) = true) (hn : n = n0) (hrem : e1.tmod 2 = r0)
    (hn9 : (n : Int) ≤ 90000000) (HXE : Hid (X * 2 ^ n = X2)) (HRT : Hid (rootN X2 = rr)) (HSQ : Hid (rr * rr = sq)) (HCZ : Hid (cmpZ sq X2 = cz)) (hcz : (cz != 0) = rest) (hW5 : IntKind.i64.wrap (x.e - (n : Int)) = e1) (hq5 : e1.tdiv 2 = e2) (hq6 : IntKind.i64.wrap e2 = e2) (HRR : Hid (cutR P (decide (0 ≤ dir)) false rr e2 rest = r))
    (hv : RV w (.slice A k c) X) (HFX : Hid (Few X)) (HF2 : Hid (Few X2)) (HFR : Hid (Few rr)) (HFS : Hid (Few sq)) (hm : Hid (rr < 2 ^ K)) (hK : K ≤ 40000000) (hP1 : 1 ≤ P) (hP2 : P ≤ 100000) (he1 : -1000000000000 ≤ e2) (he2 : e2 ≤ 1000000000000) :
    Calls Tryz.prog 51 #[.agg #[.bool s, .slice A k c, .int .i64 x.e], .int .i64 p, .int .i64 dir] w (RDP r w) := by
  have hk := ((KB.start w).new 62 [.bool s, .slice A k c, .int .i64 x.e]).new 62 [.bool false, .slice none 0 0, .int .i64 0]
  simp only [World.size_alloc] at hk
  have HX := Lib.hid (hv.only hk.only)
  have HK := Lib.hid hk
  clear hk hv
  go_enter Tryz.func51, Tryz.ntmps51
  go_wp2_with fail
  (with_reducible refine (qbits_v p P HP.out _).mono ?_)
  rintro e0 w1 ⟨rfl, rfl⟩
  obtain ⟨i0, i1, i2, -, -, -⟩ := HK.out.c3 1 rfl
  go_wp2_with fail
  (with_reducible refine (rbitsV_v bX HX HFX HBX.out).mono ?_)
  rintro e0 w2 ⟨rfl, rfl⟩
  subst hn
  clear i0 i1 i2
  obtain ⟨i0, i1, i2, -, -, -⟩ := HK.out.c3 1 rfl
  go_upto_region 5 with fail
  clear hW1 hW2 hW3 hmax hrem
  go_wp2_with fail
  (with_reducible refine (rshlV_v n X2 hn9 HX HFX HXE.out).mono ?_)
  rintro e w3 ⟨A3, k3, c3, rfl, hv, -, ho⟩
  have HX2 := Lib.hid hv
  replace HK := Lib.hid (HK.out.step ho)
  clear hv ho i0 i1 i2 HX HFX HXE
  go_wp2_with fail
  (with_reducible refine (rsqrtV_v rr HRT.out HX2 HF2).mono ?_)
  rintro e w4 ⟨A4, k4, c4, rfl, hv, -, ho⟩
  have HR := Lib.hid hv
  replace HX2 := Lib.hid (HX2.out.only ho)
  replace HK := Lib.hid (HK.out.step ho)
  clear hv ho HRT
  go_upto_region 7 with fail
  apply wp_region_typed_tail2 15 (by kernel_rfl) [isRN rr, isV _, isV _, isV _, isV _, isV _, isRN rr, isRN rr, isRN sq, isRN X2, isV _, isV _, isV _, isV _, isRD r] [[], [], [1], [], [2, 3], [4], [], [], [6, 7], [], [8, 9], [10], [], [], [0, 5, 11, 12, 13]] (by kernel_rfl) (by kernel_rfl) (by kernel_rfl)
  case ho =>
    simp only [List.take_succ_cons, List.take_zero]
    refine owes2_cons (fun wx hox => ?_) ?_
    · skip
      skip
      refine withs_plain rfl ?_
      simp only [withs, List.getElem?_cons_zero, List.getElem?_cons_succ, Option.bind, Option.getD]
      repeat (first | (with_reducible refine all_isV ?_) | (with_reducible refine all_isRD ?_; intro sx Ax kx cx hvx hwx) | (with_reducible refine all_isRN ?_; intro Ax kx cx hvx))
      go_simp
      (exact ⟨Only.refl _ _, _, _, _, rfl, HR.out.only hox⟩)
    refine owes2_cons (fun wx hox => ?_) ?_
    · skip
      skip
      refine withs_plain rfl ?_
      simp only [withs, List.getElem?_cons_zero, List.getElem?_cons_succ, Option.bind, Option.getD]
      repeat (first | (with_reducible refine all_isV ?_) | (with_reducible refine all_isRD ?_; intro sx Ax kx cx hvx hwx) | (with_reducible refine all_isRN ?_; intro Ax kx cx hvx))
      go_simp
      exact ⟨Only.refl _ _, isV.self _ _⟩
    refine owes2_cons (fun wx hox => ?_) ?_
    · skip
      have hk := HK.out.step hox
      obtain ⟨i0, i1, i2, -, -, -⟩ := hk.c3 1 rfl
      clear hk
      refine withs_plain rfl ?_
      simp only [withs, List.getElem?_cons_zero, List.getElem?_cons_succ, Option.bind, Option.getD]
      repeat (first | (with_reducible refine all_isV ?_) | (with_reducible refine all_isRD ?_; intro sx Ax kx cx hvx hwx) | (with_reducible refine all_isRN ?_; intro Ax kx cx hvx))
      go_simp
      exact ⟨Only.refl _ _, isV.self _ _⟩
    refine owes2_cons (fun wx hox => ?_) ?_
    · skip
      skip
      refine withs_plain rfl ?_
      simp only [withs, List.getElem?_cons_zero, List.getElem?_cons_succ, Option.bind, Option.getD]
      repeat (first | (with_reducible refine all_isV ?_) | (with_reducible refine all_isRD ?_; intro sx Ax kx cx hvx hwx) | (with_reducible refine all_isRN ?_; intro Ax kx cx hvx))
      go_simp
      exact ⟨Only.refl _ _, isV.self _ _⟩
    refine owes2_cons (fun wx hox => ?_) ?_
    · skip
      skip
      refine withs_plain rfl ?_
      simp only [withs, List.getElem?_cons_zero, List.getElem?_cons_succ, Option.bind, Option.getD]
      repeat (first | (with_reducible refine all_isV ?_) | (with_reducible refine all_isRD ?_; intro sx Ax kx cx hvx hwx) | (with_reducible refine all_isRN ?_; intro Ax kx cx hvx))
      go_simp
      exact ⟨Only.refl _ _, isV.self _ _⟩
    refine owes2_cons (fun wx hox => ?_) ?_
    · skip
      skip
      refine withs_plain rfl ?_
      simp only [withs, List.getElem?_cons_zero, List.getElem?_cons_succ, Option.bind, Option.getD]
      repeat (first | (with_reducible refine all_isV ?_) | (with_reducible refine all_isRD ?_; intro sx Ax kx cx hvx hwx) | (with_reducible refine all_isRN ?_; intro Ax kx cx hvx))
      go_simp
      exact ⟨Only.refl _ _, isV.self _ _⟩
    refine owes2_cons (fun wx hox => ?_) ?_
    · skip
      skip
      refine withs_plain rfl ?_
      simp only [withs, List.getElem?_cons_zero, List.getElem?_cons_succ, Option.bind, Option.getD]
      repeat (first | (with_reducible refine all_isV ?_) | (with_reducible refine all_isRD ?_; intro sx Ax kx cx hvx hwx) | (with_reducible refine all_isRN ?_; intro Ax kx cx hvx))
      go_simp
      (exact ⟨Only.refl _ _, _, _, _, rfl, HR.out.only hox⟩)
    refine owes2_cons (fun wx hox => ?_) ?_
    · skip
      skip
      refine withs_plain rfl ?_
      simp only [withs, List.getElem?_cons_zero, List.getElem?_cons_succ, Option.bind, Option.getD]
      repeat (first | (with_reducible refine all_isV ?_) | (with_reducible refine all_isRD ?_; intro sx Ax kx cx hvx hwx) | (with_reducible refine all_isRN ?_; intro Ax kx cx hvx))
      go_simp
      (exact ⟨Only.refl _ _, _, _, _, rfl, HR.out.only hox⟩)
    refine owes2_cons (fun wx hox => ?_) ?_
    · skip
      skip
      refine withs_plain rfl ?_
      simp only [withs, List.getElem?_cons_zero, List.getElem?_cons_succ, Option.bind, Option.getD]
      repeat (first | (with_reducible refine all_isV ?_) | (with_reducible refine all_isRD ?_; intro sx Ax kx cx hvx hwx) | (with_reducible refine all_isRN ?_; intro Ax kx cx hvx))
      go_simp
      (with_reducible exact grow_rn (rmulV_v sq HSQ.out (by assumption) (by assumption) HFR HFR))
    refine owes2_cons (fun wx hox => ?_) ?_
    · skip
      skip
      refine withs_plain rfl ?_
      simp only [withs, List.getElem?_cons_zero, List.getElem?_cons_succ, Option.bind, Option.getD]
      repeat (first | (with_reducible refine all_isV ?_) | (with_reducible refine all_isRD ?_; intro sx Ax kx cx hvx hwx) | (with_reducible refine all_isRN ?_; intro Ax kx cx hvx))
      go_simp
      (exact ⟨Only.refl _ _, _, _, _, rfl, HX2.out.only hox⟩)
    refine owes2_cons (fun wx hox => ?_) ?_
    · skip
      skip
      refine withs_plain rfl ?_
      simp only [withs, List.getElem?_cons_zero, List.getElem?_cons_succ, Option.bind, Option.getD]
      repeat (first | (with_reducible refine all_isV ?_) | (with_reducible refine all_isRD ?_; intro sx Ax kx cx hvx hwx) | (with_reducible refine all_isRN ?_; intro Ax kx cx hvx))
      go_simp
      (with_reducible exact grow_of (rcmpV_v cz (by assumption) (by assumption) HFS HF2 HCZ.out))
    refine owes2_cons (fun wx hox => ?_) ?_
    · skip
      skip
      refine withs_plain rfl ?_
      simp only [withs, List.getElem?_cons_zero, List.getElem?_cons_succ, Option.bind, Option.getD]
      repeat (first | (with_reducible refine all_isV ?_) | (with_reducible refine all_isRD ?_; intro sx Ax kx cx hvx hwx) | (with_reducible refine all_isRN ?_; intro Ax kx cx hvx))
      go_simp
      exact ⟨Only.refl _ _, isV.self _ _⟩
    refine owes2_cons (fun wx hox => ?_) ?_
    · skip
      skip
      refine withs_plain rfl ?_
      simp only [withs, List.getElem?_cons_zero, List.getElem?_cons_succ, Option.bind, Option.getD]
      repeat (first | (with_reducible refine all_isV ?_) | (with_reducible refine all_isRD ?_; intro sx Ax kx cx hvx hwx) | (with_reducible refine all_isRN ?_; intro Ax kx cx hvx))
      go_simp
      exact ⟨Only.refl _ _, isV.self _ _⟩
    refine owes2_cons (fun wx hox => ?_) ?_
    · skip
      skip
      refine withs_plain rfl ?_
      simp only [withs, List.getElem?_cons_zero, List.getElem?_cons_succ, Option.bind, Option.getD]
      repeat (first | (with_reducible refine all_isV ?_) | (with_reducible refine all_isRD ?_; intro sx Ax kx cx hvx hwx) | (with_reducible refine all_isRN ?_; intro Ax kx cx hvx))
      go_simp
      exact ⟨Only.refl _ _, isV.self _ _⟩
    refine owes2_cons (fun wx hox => ?_) ?_
    · skip
      skip
      refine withs_plain rfl ?_
      simp only [withs, List.getElem?_cons_zero, List.getElem?_cons_succ, Option.bind, Option.getD]
      repeat (first | (with_reducible refine all_isV ?_) | (with_reducible refine all_isRD ?_; intro sx Ax kx cx hvx hwx) | (with_reducible refine all_isRN ?_; intro Ax kx cx hvx))
      go_simp
      (with_reducible exact grow_rd (rcut_d (K := K) false rest e2 dir P r HRR.out (by assumption) hm.out hK hP1 hP2 he1 he2))
    exact owes2_nil
  case he =>
    simp only [List.drop_succ_cons, List.drop_zero]
    intro wx hox
    refine withs_of (by simp only [List.length, List.range, List.range.loop]; exact rfl) ?_
    simp only [withs, List.getElem?_cons_zero, List.getElem?_cons_succ, Option.bind, Option.getD]
    with_reducible refine all_isRN ?_
    intro A0 k0 c0 hv0
    with_reducible refine all_isV ?_
    with_reducible refine all_isV ?_
    with_reducible refine all_isV ?_
    with_reducible refine all_isV ?_
    with_reducible refine all_isV ?_
    with_reducible refine all_isRN ?_
    intro A6 k6 c6 hv6
    with_reducible refine all_isRN ?_
    intro A7 k7 c7 hv7
    with_reducible refine all_isRN ?_
    intro A8 k8 c8 hv8
    with_reducible refine all_isRN ?_
    intro A9 k9 c9 hv9
    with_reducible refine all_isV ?_
    with_reducible refine all_isV ?_
    with_reducible refine all_isV ?_
    with_reducible refine all_isV ?_
    with_reducible refine all_isRD ?_
    intro s14 A14 k14 c14 hv14 hw14
    go_simp
    replace HK := Lib.hid (HK.out.step hox)
    clear hox
    obtain ⟨q0, q1, q2, f0, f1, f2⟩ := HK.out.c3 0 rfl
    go_wp2_with fail
    refine bodyPost_ret (v := .agg #[.bool s14, .slice A14 k14 c14, .int .i64 (r.e)]) (by simp [results, Tryz.results51, go_sem, q0, q1, q2]) rfl ?_
    exact rdfin hv14 hw14 (by omega) (HK.out.blk 0 rfl) (noLimb3 _ _ _ _ _) HK.out.only (only_set3 _ _ _ _ _)
  case hl =>
    repeat (refine List.forall_mem_cons.2 ⟨?_, ?_⟩; first | exact isV.lasts _ | exact isRD.lasts _ | exact isRN.lasts _)
    exact fun _ h => (by cases h)
set_option maxHeartbeats 8000000 in
set_option maxRecDepth 100000 in
theorem rdsqrt_odd {w : World} {s : Bool} {A : Option Addr} {k c X K : Nat} {x : Dy} (p dir : Int) (P bX n0 n X2 rr sq : Nat) (p1 p2 p3 d0 r0 e1 e2 cz : Int) (rest : Bool) (r : Dy) (HP : Hid (widthP p = P)) (HBX : Hid (bitsN X = bX)) (hW1 : IntKind.i64.wrap (2 * (P : Int)) = p1) (hW2 : IntKind.i64.wrap (p1 + 4) = p2) (hW3 : IntKind.i64.wrap (p2 - (bX : Int)) = p3) (hmax : max p3 0 = (n0 : Int)) (hW4 : IntKind.i64.wrap (x.e - (n0 : Int)) = d0) (hrem : d0.tmod 2 = r0) (hr0 : (r0 == 0) = false) (hn : IntKind.i64.wrap ((n0 : Int) + 1) = (n : Int))
    (hn9 : (n : Int) ≤ 90000000) (HXE : Hid (X * 2 ^ n = X2)) (HRT : Hid (rootN X2 = rr)) (HSQ : Hid (rr * rr = sq)) (HCZ : Hid (cmpZ sq X2 = cz)) (hcz : (cz != 0) = rest) (hW5 : IntKind.i64.wrap (x.e - (n : Int)) = e1) (hq5 : e1.tdiv 2 = e2) (hq6 : IntKind.i64.wrap e2 = e2) (HRR : Hid (cutR P (decide (0 ≤ dir)) false rr e2 rest = r))
    (hv : RV w (.slice A k c) X) (HFX : Hid (Few X)) (HF2 : Hid (Few X2)) (HFR : Hid (Few rr)) (HFS : Hid (Few sq)) (hm : Hid (rr < 2 ^ K)) (hK : K ≤ 40000000) (hP1 : 1 ≤ P) (hP2 : P ≤ 100000) (he1 : -1000000000000 ≤ e2) (he2 : e2 ≤ 1000000000000) :
    Calls Tryz.prog 51 #[.agg #[.bool s, .slice A k c, .int .i64 x.e], .int .i64 p, .int .i64 dir] w (RDP r w) := by
  have hk := ((KB.start w).new 62 [.bool s, .slice A k c, .int .i64 x.e]).new 62 [.bool false, .slice none 0 0, .int .i64 0]
  simp only [World.size_alloc] at hk
  have HX := Lib.hid (hv.only hk.only)
  have HK := Lib.hid hk
  clear hk hv
  go_enter Tryz.func51, Tryz.ntmps51
  go_wp2_with fail
  (with_reducible refine (qbits_v p P HP.out _).mono ?_)
  rintro e0 w1 ⟨rfl, rfl⟩
  obtain ⟨i0, i1, i2, -, -, -⟩ := HK.out.c3 1 rfl
  go_wp2_with fail
  (with_reducible refine (rbitsV_v bX HX HFX HBX.out).mono ?_)
  rintro e0 w2 ⟨rfl, rfl⟩
  clear i0 i1 i2
  obtain ⟨i0, i1, i2, -, -, -⟩ := HK.out.c3 1 rfl
  go_upto_region 5 with fail
  clear hW1 hW2 hW3 hmax hW4 hrem
  go_wp2_with fail
  (with_reducible refine (rshlV_v n X2 hn9 HX HFX HXE.out).mono ?_)
  rintro e w3 ⟨A3, k3, c3, rfl, hv, -, ho⟩
  have HX2 := Lib.hid hv
  replace HK := Lib.hid (HK.out.step ho)
  clear hv ho i0 i1 i2 HX HFX HXE
  go_wp2_with fail
  (with_reducible refine (rsqrtV_v rr HRT.out HX2 HF2).mono ?_)
  rintro e w4 ⟨A4, k4, c4, rfl, hv, -, ho⟩
  have HR := Lib.hid hv
  replace HX2 := Lib.hid (HX2.out.only ho)
  replace HK := Lib.hid (HK.out.step ho)
  clear hv ho HRT
  go_upto_region 7 with fail
  apply wp_region_typed_tail2 15 (by kernel_rfl) [isRN rr, isV _, isV _, isV _, isV _, isV _, isRN rr, isRN rr, isRN sq, isRN X2, isV _, isV _, isV _, isV _, isRD r] [[], [], [1], [], [2, 3], [4], [], [], [6, 7], [], [8, 9], [10], [], [], [0, 5, 11, 12, 13]] (by kernel_rfl) (by kernel_rfl) (by kernel_rfl)
  case ho =>
    simp only [List.take_succ_cons, List.take_zero]
    refine owes2_cons (fun wx hox => ?_) ?_
    · skip
      skip
      refine withs_plain rfl ?_
      simp only [withs, List.getElem?_cons_zero, List.getElem?_cons_succ, Option.bind, Option.getD]
      repeat (first | (with_reducible refine all_isV ?_) | (with_reducible refine all_isRD ?_; intro sx Ax kx cx hvx hwx) | (with_reducible refine all_isRN ?_; intro Ax kx cx hvx))
      go_simp
      (exact ⟨Only.refl _ _, _, _, _, rfl, HR.out.only hox⟩)
    refine owes2_cons (fun wx hox => ?_) ?_
    · skip
      skip
      refine withs_plain rfl ?_
      simp only [withs, List.getElem?_cons_zero, List.getElem?_cons_succ, Option.bind, Option.getD]
      repeat (first | (with_reducible refine all_isV ?_) | (with_reducible refine all_isRD ?_; intro sx Ax kx cx hvx hwx) | (with_reducible refine all_isRN ?_; intro Ax kx cx hvx))
      go_simp
      exact ⟨Only.refl _ _, isV.self _ _⟩
    refine owes2_cons (fun wx hox => ?_) ?_
    · skip
      have hk := HK.out.step hox
      obtain ⟨i0, i1, i2, -, -, -⟩ := hk.c3 1 rfl
      clear hk
      refine withs_plain rfl ?_
      simp only [withs, List.getElem?_cons_zero, List.getElem?_cons_succ, Option.bind, Option.getD]
      repeat (first | (with_reducible refine all_isV ?_) | (with_reducible refine all_isRD ?_; intro sx Ax kx cx hvx hwx) | (with_reducible refine all_isRN ?_; intro Ax kx cx hvx))
      go_simp
      exact ⟨Only.refl _ _, isV.self _ _⟩
    refine owes2_cons (fun wx hox => ?_) ?_
    · skip
      skip
      refine withs_plain rfl ?_
      simp only [withs, List.getElem?_cons_zero, List.getElem?_cons_succ, Option.bind, Option.getD]
      repeat (first | (with_reducible refine all_isV ?_) | (with_reducible refine all_isRD ?_; intro sx Ax kx cx hvx hwx) | (with_reducible refine all_isRN ?_; intro Ax kx cx hvx))
      go_simp
      exact ⟨Only.refl _ _, isV.self _ _⟩
    refine owes2_cons (fun wx hox => ?_) ?_
    · skip
      skip
      refine withs_plain rfl ?_
      simp only [withs, List.getElem?_cons_zero, List.getElem?_cons_succ, Option.bind, Option.getD]
      repeat (first | (with_reducible refine all_isV ?_) | (with_reducible refine all_isRD ?_; intro sx Ax kx cx hvx hwx) | (with_reducible refine all_isRN ?_; intro Ax kx cx hvx))
      go_simp
      exact ⟨Only.refl _ _, isV.self _ _⟩
    refine owes2_cons (fun wx hox => ?_) ?_
    · skip
      skip
      refine withs_plain rfl ?_
      simp only [withs, List.getElem?_cons_zero, List.getElem?_cons_succ, Option.bind, Option.getD]
      repeat (first | (with_reducible refine all_isV ?_) | (with_reducible refine all_isRD ?_; intro sx Ax kx cx hvx hwx) | (with_reducible refine all_isRN ?_; intro Ax kx cx hvx))
      go_simp
      exact ⟨Only.refl _ _, isV.self _ _⟩
    refine owes2_cons (fun wx hox => ?_) ?_
    · skip
      skip
      refine withs_plain rfl ?_
      simp only [withs, List.getElem?_cons_zero, List.getElem?_cons_succ, Option.bind, Option.getD]
      repeat (first | (with_reducible refine all_isV ?_) | (with_reducible refine all_isRD ?_; intro sx Ax kx cx hvx hwx) | (with_reducible refine all_isRN ?_; intro Ax kx cx hvx))
      go_simp
      (exact ⟨Only.refl _ _, _, _, _, rfl, HR.out.only hox⟩)
    refine owes2_cons (fun wx hox => ?_) ?_
    · skip
      skip
      refine withs_plain rfl ?_
      simp only [withs, List.getElem?_cons_zero, List.getElem?_cons_succ, Option.bind, Option.getD]
      repeat (first | (with_reducible refine all_isV ?_) | (with_reducible refine all_isRD ?_; intro sx Ax kx cx hvx hwx) | (with_reducible refine all_isRN ?_; intro Ax kx cx hvx))
      go_simp
      (exact ⟨Only.refl _ _, _, _, _, rfl, HR.out.only hox⟩)
    refine owes2_cons (fun wx hox => ?_) ?_
    · skip
      skip
      refine withs_plain rfl ?_
      simp only [withs, List.getElem?_cons_zero, List.getElem?_cons_succ, Option.bind, Option.getD]
      repeat (first | (with_reducible refine all_isV ?_) | (with_reducible refine all_isRD ?_; intro sx Ax kx cx hvx hwx) | (with_reducible refine all_isRN ?_; intro Ax kx cx hvx))
      go_simp
      (with_reducible exact grow_rn (rmulV_v sq HSQ.out (by assumption) (by assumption) HFR HFR))
    refine owes2_cons (fun wx hox => ?_) ?_
    · skip
      skip
      refine withs_plain rfl ?_
      simp only [withs, List.getElem?_cons_zero, List.getElem?_cons_succ, Option.bind, Option.getD]
      repeat (first | (with_reducible refine all_isV ?_) | (with_reducible refine all_isRD ?_; intro sx Ax kx cx hvx hwx) | (with_reducible refine all_isRN ?_; intro Ax kx cx hvx))
      go_simp
      (exact ⟨Only.refl _ _, _, _, _, rfl, HX2.out.only hox⟩)
    refine owes2_cons (fun wx hox => ?_) ?_
    · skip
      skip
      refine withs_plain rfl ?_
      simp only [withs, List.getElem?_cons_zero, List.getElem?_cons_succ, Option.bind, Option.getD]
      repeat (first | (with_reducible refine all_isV ?_) | (with_reducible refine all_isRD ?_; intro sx Ax kx cx hvx hwx) | (with_reducible refine all_isRN ?_; intro Ax kx cx hvx))
      go_simp
      (with_reducible exact grow_of (rcmpV_v cz (by assumption) (by assumption) HFS HF2 HCZ.out))
    refine owes2_cons (fun wx hox => ?_) ?_
    · skip
      skip
      refine withs_plain rfl ?_
      simp only [withs, List.getElem?_cons_zero, List.getElem?_cons_succ, Option.bind, Option.getD]
      repeat (first | (with_reducible refine all_isV ?_) | (with_reducible refine all_isRD ?_; intro sx Ax kx cx hvx hwx) | (with_reducible refine all_isRN ?_; intro Ax kx cx hvx))
      go_simp
      exact ⟨Only.refl _ _, isV.self _ _⟩
    refine owes2_cons (fun wx hox => ?_) ?_
    · skip
      skip
      refine withs_plain rfl ?_
      simp only [withs, List.getElem?_cons_zero, List.getElem?_cons_succ, Option.bind, Option.getD]
      repeat (first | (with_reducible refine all_isV ?_) | (with_reducible refine all_isRD ?_; intro sx Ax kx cx hvx hwx) | (with_reducible refine all_isRN ?_; intro Ax kx cx hvx))
      go_simp
      exact ⟨Only.refl _ _, isV.self _ _⟩
    refine owes2_cons (fun wx hox => ?_) ?_
    · skip
      skip
      refine withs_plain rfl ?_
      simp only [withs, List.getElem?_cons_zero, List.getElem?_cons_succ, Option.bind, Option.getD]
      repeat (first | (with_reducible refine all_isV ?_) | (with_reducible refine all_isRD ?_; intro sx Ax kx cx hvx hwx) | (with_reducible refine all_isRN ?_; intro Ax kx cx hvx))
      go_simp
      exact ⟨Only.refl _ _, isV.self _ _⟩
    refine owes2_cons (fun wx hox => ?_) ?_
    · skip
      skip
      refine withs_plain rfl ?_
      simp only [withs, List.getElem?_cons_zero, List.getElem?_cons_succ, Option.bind, Option.getD]
      repeat (first | (with_reducible refine all_isV ?_) | (with_reducible refine all_isRD ?_; intro sx Ax kx cx hvx hwx) | (with_reducible refine all_isRN ?_; intro Ax kx cx hvx))
      go_simp
      (with_reducible exact grow_rd (rcut_d (K := K) false rest e2 dir P r HRR.out (by assumption) hm.out hK hP1 hP2 he1 he2))
    exact owes2_nil
  case he =>
    simp only [List.drop_succ_cons, List.drop_zero]
    intro wx hox
    refine withs_of (by simp only [List.length, List.range, List.range.loop]; exact rfl) ?_
    simp only [withs, List.getElem?_cons_zero, List.getElem?_cons_succ, Option.bind, Option.getD]
    with_reducible refine all_isRN ?_
    intro A0 k0 c0 hv0
    with_reducible refine all_isV ?_
    with_reducible refine all_isV ?_
    with_reducible refine all_isV ?_
    with_reducible refine all_isV ?_
    with_reducible refine all_isV ?_
    with_reducible refine all_isRN ?_
    intro A6 k6 c6 hv6
    with_reducible refine all_isRN ?_
    intro A7 k7 c7 hv7
    with_reducible refine all_isRN ?_
    intro A8 k8 c8 hv8
    with_reducible refine all_isRN ?_
    intro A9 k9 c9 hv9
    with_reducible refine all_isV ?_
    with_reducible refine all_isV ?_
    with_reducible refine all_isV ?_
    with_reducible refine all_isV ?_
    with_reducible refine all_isRD ?_
    intro s14 A14 k14 c14 hv14 hw14
    go_simp
    replace HK := Lib.hid (HK.out.step hox)
    clear hox
    obtain ⟨q0, q1, q2, f0, f1, f2⟩ := HK.out.c3 0 rfl
    go_wp2_with fail
    refine bodyPost_ret (v := .agg #[.bool s14, .slice A14 k14 c14, .int .i64 (r.e)]) (by simp [results, Tryz.results51, go_sem, q0, q1, q2]) rfl ?_
    exact rdfin hv14 hw14 (by omega) (HK.out.blk 0 rfl) (noLimb3 _ _ _ _ _) HK.out.only (only_set3 _ _ _ _ _)
  case hl =>
    repeat (refine List.forall_mem_cons.2 ⟨?_, ?_⟩; first | exact isV.lasts _ | exact isRD.lasts _ | exact isRN.lasts _)
    exact fun _ h => (by cases h)

theorem cmpZ_bne (m n : Nat) : (cmpZ m n != 0) = decide (m ≠ n) := by
  unfold cmpZ
  by_cases h1 : m < n
  · rw [if_pos h1, decide_eq_true (by omega)]; rfl
  · by_cases h2 : m = n
    · subst h2; simp
    · rw [decide_eq_true h2]; simp [h1]; omega
theorem rdsqrt_d {w : World} {a : Value} {x : Dy} {N : Nat} (p dir : Int) (r : Dy) (hr : sqrtQ (widthP p) (decide (0 ≤ dir)) x = r) (hx0 : 0 ≤ x.z) (ha : Hid (RD w a x)) (hx : Hid (Bnd N x)) (hN : N ≤ 2000000) : Calls Tryz.prog 51 #[a, .int .i64 p, .int .i64 dir] w (RDP r w) := by
  have hex := rlim_i64 hx.out (by omega)
  obtain ⟨P, hP⟩ : ∃ P, widthP p = P := ⟨_, rfl⟩
  have hw := widthP_range p
  rw [hP] at hw hr
  obtain ⟨s, A, k, c, rfl, hc, hv⟩ := ha.out
  have hs : s = false := by rw [hc.1]; exact decide_eq_false (by omega)
  subst hs
  have hX := bitsN_le hx.out.z
  obtain ⟨n0, hn0⟩ : ∃ n0 : Nat, 2 * P + 4 - bitsN x.z.natAbs = n0 := ⟨_, rfl⟩
  have hn : (max (2 * (P : Int) + 4 - (bitsN x.z.natAbs : Int)) 0) = (n0 : Int) := by omega
  have hnl : sqrRn P x ≤ 2 * P + 5 := by unfold sqrRn; split <;> omega
  have hnr : sqrRn P x = if (x.e - (n0 : Int)) % 2 = 0 then n0 else n0 + 1 := by unfold sqrRn; rw [hn0]
  have hev : (x.e - (sqrRn P x : Int)) % 2 = 0 := by rw [hnr]; split <;> omega
  have hx2 : x.z.natAbs * 2 ^ sqrRn P x < 2 ^ (N + (2 * P + 5)) := by
    rw [Nat.pow_add]
    have h1 : x.z.natAbs * 2 ^ sqrRn P x ≤ x.z.natAbs * 2 ^ (2 * P + 5) := Nat.mul_le_mul_left _ (two_mono hnl)
    exact Nat.lt_of_le_of_lt h1 ((Nat.mul_lt_mul_right (Nat.pow_pos (by omega))).2 hx.out.z)
  have hroot := (rootN_is (x.z.natAbs * 2 ^ sqrRn P x)).1
  have href := sqr_ref (P := P) (up := decide (0 ≤ dir)) (x := x) hw.1 hx0
  unfold sqrR at href
  rw [hr] at href
  obtain ⟨n, hne⟩ : ∃ n, sqrRn P x = n := ⟨_, rfl⟩
  rw [hne] at href hx2 hev hnl hnr hroot
  obtain ⟨X2, hX2⟩ : ∃ X2, x.z.natAbs * 2 ^ n = X2 := ⟨_, rfl⟩
  rw [hX2] at href hx2 hroot
  have hrl : rootN X2 ≤ X2 := by
    rcases Nat.eq_zero_or_pos (rootN X2) with h | h
    · omega
    · exact Nat.le_trans (Nat.le_mul_of_pos_left _ h) hroot
  have hdv : (x.e - (n : Int)).tdiv 2 = (x.e - (n : Int)) / 2 := Int.tdiv_eq_ediv_of_dvd (Int.dvd_of_emod_eq_zero hev)
  have HF : Hid (Few x.z.natAbs) := rd_few hx.out (by omega)
  have hre : (cmpZ (rootN X2 * rootN X2) X2 != 0) = decide (rootN X2 * rootN X2 ≠ X2) := cmpZ_bne _ _
  by_cases hp : (x.e - (n0 : Int)) % 2 = 0
  · rw [if_pos hp] at hnr
    exact rdsqrt_even (K := N + (2 * P + 5)) p dir P (bitsN x.z.natAbs) n0 n X2 _ _ (2 * (P : Int)) (2 * (P : Int) + 4) (2 * (P : Int) + 4 - (bitsN x.z.natAbs : Int)) 0 (x.e - (n : Int)) ((x.e - (n : Int)) / 2) _ _ r (Lib.hid hP) (Lib.hid rfl) (wrap_i64 (by omega)) (wrap_i64 (by omega)) (wrap_i64 (by omega)) hn rfl hnr (by rw [hnr]; exact Int.tmod_eq_zero_of_dvd (Int.dvd_of_emod_eq_zero hp)) (by omega) (Lib.hid hX2) (Lib.hid rfl) (Lib.hid rfl) (Lib.hid rfl) hre (wrap_i64 (by omega)) hdv (wrap_i64 (by omega)) (Lib.hid href) hv HF (Lib.hid (few_two_pow hx2 (by omega))) (Lib.hid (few_two_pow (Nat.lt_of_le_of_lt hrl hx2) (by omega))) (Lib.hid (few_two_pow (Nat.lt_of_le_of_lt hroot hx2) (by omega))) (Lib.hid (Nat.lt_of_le_of_lt hrl hx2)) (by omega) hw.1 (by omega) (by omega) (by omega)
  · rw [if_neg hp] at hnr
    have hr0 : ((x.e - (n0 : Int)).tmod 2 == 0) = false := by rw [beq_eq_false_iff_ne]; exact fun hc => hp (Int.emod_eq_zero_of_dvd (Int.dvd_of_tmod_eq_zero hc))
    exact rdsqrt_odd (K := N + (2 * P + 5)) p dir P (bitsN x.z.natAbs) n0 n X2 _ _ (2 * (P : Int)) (2 * (P : Int) + 4) (2 * (P : Int) + 4 - (bitsN x.z.natAbs : Int)) (x.e - (n0 : Int)) _ (x.e - (n : Int)) ((x.e - (n : Int)) / 2) _ _ r (Lib.hid hP) (Lib.hid rfl) (wrap_i64 (by omega)) (wrap_i64 (by omega)) (wrap_i64 (by omega)) hn (wrap_i64 (by omega)) rfl hr0 ((wrap_i64 (by omega)).trans (by omega)) (by omega) (Lib.hid hX2) (Lib.hid rfl) (Lib.hid rfl) (Lib.hid rfl) hre (wrap_i64 (by omega)) hdv (wrap_i64 (by omega)) (Lib.hid href) hv HF (Lib.hid (few_two_pow hx2 (by omega))) (Lib.hid (few_two_pow (Nat.lt_of_le_of_lt hrl hx2) (by omega))) (Lib.hid (few_two_pow (Nat.lt_of_le_of_lt hroot hx2) (by omega))) (Lib.hid (Nat.lt_of_le_of_lt hrl hx2)) (by omega) hw.1 (by omega) (by omega) (by omega)

end Go.Proofs.YtkibkmdgibemkaaGreatDoor
