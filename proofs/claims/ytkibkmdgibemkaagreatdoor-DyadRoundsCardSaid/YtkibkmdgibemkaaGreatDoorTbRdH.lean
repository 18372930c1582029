/-
  The reference's dyads: Quo.
-/
import Derived.Test.YtkibkmdgibemkaaGreatDoorTbRdG
namespace Go.Proofs.YtkibkmdgibemkaaGreatDoor
set_option linter.unusedSimpArgs false
open Go.RowKit
theorem grow_rp' {f : FuncId} {args : Array Value} {w : World} {m n q r : Nat} (h : Calls Tryz.prog f args w (RDPost m n w)) (hq : m / n = q) (hr : m % n = r) :
    Calls Tryz.prog f args w fun e w'' => ∃ u, e = .returned u ∧ Only [] w w'' ∧ isRP q r u w'' := hq ▸ hr ▸ grow_rp h
set_option maxHeartbeats 8000000 in
set_option maxRecDepth 100000 in
theorem rquo_core {w : World} {s t : Bool} {A B : Option Addr} {k c m d X Y K : Nat} {x y : Dy} (p dir : Int) (P bX bY n X2 qq rr : Nat) (p2 p3 p4 e1 e2 : Int) (ng rest : Bool) (r : Dy) (HP : Hid (widthP p = P)) (HBX : Hid (bitsN X = bX)) (HBY : Hid (bitsN Y = bY)) (hW1 : IntKind.i64.wrap ((P : Int) + 2) = p2) (hW2 : IntKind.i64.wrap (p2 + (bY : Int)) = p3) (hW3 : IntKind.i64.wrap (p3 - (bX : Int)) = p4) (hmax : max p4 0 = (n : Int))
    (hn9 : (n : Int) ≤ 90000000) (HX2 : Hid (X * 2 ^ n = X2)) (HQ : Hid (X2 / Y = qq)) (HR0 : Hid (X2 % Y = rr)) (hW4 : IntKind.i64.wrap (x.e - y.e) = e1) (hW5 : IntKind.i64.wrap (e1 - (n : Int)) = e2) (hng : (!(s == t)) = ng) (HKR : Hid (∀ k11 : Nat, k11 = (R.limbsOf rr).length → decide (0 < k11) = rest)) (hr : Hid (cutR P (decide (0 ≤ dir)) ng qq e2 rest = r))
    (hv : RV w (.slice A k c) X) (hu : RV w (.slice B m d) Y) (HFX : Hid (Few X)) (HFY : Hid (Few Y)) (HF2 : Hid (Few X2)) (hY0 : 0 < Y) (hm : Hid (qq < 2 ^ K)) (hK : K ≤ 40000000) (hP1 : 1 ≤ P) (hP2 : P ≤ 100000) (he1 : -1000000000000 ≤ e2) (he2 : e2 ≤ 1000000000000) :
    Calls Tryz.prog 50 #[.agg #[.bool s, .slice A k c, .int .i64 x.e], .agg #[.bool t, .slice B m d, .int .i64 y.e], .int .i64 p, .int .i64 dir] w (RDP r w) := by
  have hk := (((KB.start w).new 62 [.bool s, .slice A k c, .int .i64 x.e]).new 62 [.bool t, .slice B m d, .int .i64 y.e]).new 62 [.bool false, .slice none 0 0, .int .i64 0]
  simp only [World.size_alloc] at hk
  have HX := Lib.hid (hv.only hk.only)
  have HY := Lib.hid (hu.only hk.only)
  have HK := Lib.hid hk
  clear hk hv hu
  go_enter Tryz.func50, Tryz.ntmps50
  go_wp2_with fail
  (with_reducible refine (qbits_v p P HP.out _).mono ?_)
  rintro e0 w1 ⟨rfl, rfl⟩
  go_upto_region 2 with fail
  apply wp_region_typed2 (by kernel_rfl) [isV _, isV _, isV _, isV _, isV _, isV _, isV _, isV _, isV _, isV _, isV _, isV _] [[], [0], [], [2], [3], [1, 4], [], [6], [7], [5, 8], [9], [10]] (by kernel_rfl) (by kernel_rfl)
  case ho =>
    refine owes2_cons (fun wx hox => ?_) ?_
    · skip
      skip
      refine withs_plain rfl ?_
      simp only [withs, List.getElem?_cons_zero, List.getElem?_cons_succ, Option.bind, Option.getD]
      repeat (with_reducible refine all_isV ?_)
      go_simp
      exact ⟨Only.refl _ _, isV.self _ _⟩
    refine owes2_cons (fun wx hox => ?_) ?_
    · skip
      skip
      refine withs_plain rfl ?_
      simp only [withs, List.getElem?_cons_zero, List.getElem?_cons_succ, Option.bind, Option.getD]
      repeat (with_reducible refine all_isV ?_)
      go_simp
      exact ⟨Only.refl _ _, isV.self _ _⟩
    refine owes2_cons (fun wx hox => ?_) ?_
    · skip
      skip
      refine withs_plain rfl ?_
      simp only [withs, List.getElem?_cons_zero, List.getElem?_cons_succ, Option.bind, Option.getD]
      repeat (with_reducible refine all_isV ?_)
      go_simp
      exact ⟨Only.refl _ _, isV.self _ _⟩
    refine owes2_cons (fun wx hox => ?_) ?_
    · skip
      have hk := HK.out.step hox
      obtain ⟨j0, j1, j2, -, -, -⟩ := hk.c3 1 rfl
      clear hk
      refine withs_plain rfl ?_
      simp only [withs, List.getElem?_cons_zero, List.getElem?_cons_succ, Option.bind, Option.getD]
      repeat (with_reducible refine all_isV ?_)
      go_simp
      exact ⟨Only.refl _ _, isV.self _ _⟩
    refine owes2_cons (fun wx hox => ?_) ?_
    · skip
      skip
      refine withs_plain rfl ?_
      simp only [withs, List.getElem?_cons_zero, List.getElem?_cons_succ, Option.bind, Option.getD]
      repeat (with_reducible refine all_isV ?_)
      go_simp
      (with_reducible exact grow_same (rbitsV_v bY (Lib.hid (HY.out.only hox)) HFY HBY.out))
    refine owes2_cons (fun wx hox => ?_) ?_
    · skip
      skip
      refine withs_plain rfl ?_
      simp only [withs, List.getElem?_cons_zero, List.getElem?_cons_succ, Option.bind, Option.getD]
      repeat (with_reducible refine all_isV ?_)
      go_simp
      exact ⟨Only.refl _ _, isV.self _ _⟩
    refine owes2_cons (fun wx hox => ?_) ?_
    · skip
      skip
      refine withs_plain rfl ?_
      simp only [withs, List.getElem?_cons_zero, List.getElem?_cons_succ, Option.bind, Option.getD]
      repeat (with_reducible refine all_isV ?_)
      go_simp
      exact ⟨Only.refl _ _, isV.self _ _⟩
    refine owes2_cons (fun wx hox => ?_) ?_
    · skip
      have hk := HK.out.step hox
      obtain ⟨i0, i1, i2, -, -, -⟩ := hk.c3 2 rfl
      clear hk
      refine withs_plain rfl ?_
      simp only [withs, List.getElem?_cons_zero, List.getElem?_cons_succ, Option.bind, Option.getD]
      repeat (with_reducible refine all_isV ?_)
      go_simp
      exact ⟨Only.refl _ _, isV.self _ _⟩
    refine owes2_cons (fun wx hox => ?_) ?_
    · skip
      skip
      refine withs_plain rfl ?_
      simp only [withs, List.getElem?_cons_zero, List.getElem?_cons_succ, Option.bind, Option.getD]
      repeat (with_reducible refine all_isV ?_)
      go_simp
      (with_reducible exact grow_same (rbitsV_v bX (Lib.hid (HX.out.only hox)) HFX HBX.out))
    refine owes2_cons (fun wx hox => ?_) ?_
    · skip
      skip
      refine withs_plain rfl ?_
      simp only [withs, List.getElem?_cons_zero, List.getElem?_cons_succ, Option.bind, Option.getD]
      repeat (with_reducible refine all_isV ?_)
      go_simp
      exact ⟨Only.refl _ _, isV.self _ _⟩
    refine owes2_cons (fun wx hox => ?_) ?_
    · skip
      skip
      refine withs_plain rfl ?_
      simp only [withs, List.getElem?_cons_zero, List.getElem?_cons_succ, Option.bind, Option.getD]
      repeat (with_reducible refine all_isV ?_)
      go_simp
      exact ⟨Only.refl _ _, isV.self _ _⟩
    refine owes2_cons (fun wx hox => ?_) ?_
    · skip
      skip
      refine withs_plain rfl ?_
      simp only [withs, List.getElem?_cons_zero, List.getElem?_cons_succ, Option.bind, Option.getD]
      repeat (with_reducible refine all_isV ?_)
      go_simp
      exact ⟨Only.refl _ _, isV.self _ _⟩
    exact owes2_nil
  case he =>
    intro wx hox
    refine withs_of (by simp only [List.length, List.range, List.range.loop]; exact rfl) ?_
    simp only [withs, List.getElem?_cons_zero, List.getElem?_cons_succ, Option.bind, Option.getD]
    with_reducible refine all_isV ?_
    with_reducible refine all_isV ?_
    with_reducible refine all_isV ?_
    with_reducible refine all_isV ?_
    with_reducible refine all_isV ?_
    with_reducible refine all_isV ?_
    with_reducible refine all_isV ?_
    with_reducible refine all_isV ?_
    with_reducible refine all_isV ?_
    with_reducible refine all_isV ?_
    with_reducible refine all_isV ?_
    with_reducible refine all_isV ?_
    go_simp
    replace HK := Lib.hid (HK.out.step hox)
    replace HX := Lib.hid (HX.out.only hox)
    replace HY := Lib.hid (HY.out.only hox)
    clear hox HBY HBX
    go_upto_region 3 with fail
    clear hW1 hW2 hW3 hmax
    apply wp_region_typed2 (by kernel_rfl) [isV _, isV _, isV _, isRN X2, isV _, isV _, isRP qq rr, isRP qq rr, isRN qq, isRN rr, isRN qq, isRN rr] [[], [0], [], [1, 2], [], [4], [3, 5], [6], [7], [7], [8], [9]] (by kernel_rfl) (by kernel_rfl)
    case ho =>
      refine owes2_cons (fun wx hox => ?_) ?_
      · skip
        skip
        refine withs_plain rfl ?_
        simp only [withs, List.getElem?_cons_zero, List.getElem?_cons_succ, Option.bind, Option.getD]
        repeat (first | (with_reducible refine all_isV ?_) | (with_reducible refine all_isRN ?_; intro Ax kx cx hvx) | (with_reducible refine all_isRP ?_; intro Ax kx cx Bx mx dx hvx hwx))
        go_simp
        exact ⟨Only.refl _ _, isV.self _ _⟩
      refine owes2_cons (fun wx hox => ?_) ?_
      · skip
        have hk := HK.out.step hox
        obtain ⟨i0, i1, i2, -, -, -⟩ := hk.c3 2 rfl
        clear hk
        refine withs_plain rfl ?_
        simp only [withs, List.getElem?_cons_zero, List.getElem?_cons_succ, Option.bind, Option.getD]
        repeat (first | (with_reducible refine all_isV ?_) | (with_reducible refine all_isRN ?_; intro Ax kx cx hvx) | (with_reducible refine all_isRP ?_; intro Ax kx cx Bx mx dx hvx hwx))
        go_simp
        exact ⟨Only.refl _ _, isV.self _ _⟩
      refine owes2_cons (fun wx hox => ?_) ?_
      · skip
        skip
        refine withs_plain rfl ?_
        simp only [withs, List.getElem?_cons_zero, List.getElem?_cons_succ, Option.bind, Option.getD]
        repeat (first | (with_reducible refine all_isV ?_) | (with_reducible refine all_isRN ?_; intro Ax kx cx hvx) | (with_reducible refine all_isRP ?_; intro Ax kx cx Bx mx dx hvx hwx))
        go_simp
        exact ⟨Only.refl _ _, isV.self _ _⟩
      refine owes2_cons (fun wx hox => ?_) ?_
      · skip
        skip
        refine withs_plain rfl ?_
        simp only [withs, List.getElem?_cons_zero, List.getElem?_cons_succ, Option.bind, Option.getD]
        repeat (first | (with_reducible refine all_isV ?_) | (with_reducible refine all_isRN ?_; intro Ax kx cx hvx) | (with_reducible refine all_isRP ?_; intro Ax kx cx Bx mx dx hvx hwx))
        go_simp
        (with_reducible exact grow_rn (rshlV_v n X2 hn9 (Lib.hid (HX.out.only hox)) HFX HX2.out))
      refine owes2_cons (fun wx hox => ?_) ?_
      · skip
        skip
        refine withs_plain rfl ?_
        simp only [withs, List.getElem?_cons_zero, List.getElem?_cons_succ, Option.bind, Option.getD]
        repeat (first | (with_reducible refine all_isV ?_) | (with_reducible refine all_isRN ?_; intro Ax kx cx hvx) | (with_reducible refine all_isRP ?_; intro Ax kx cx Bx mx dx hvx hwx))
        go_simp
        exact ⟨Only.refl _ _, isV.self _ _⟩
      refine owes2_cons (fun wx hox => ?_) ?_
      · skip
        have hk := HK.out.step hox
        obtain ⟨j0, j1, j2, -, -, -⟩ := hk.c3 1 rfl
        clear hk
        refine withs_plain rfl ?_
        simp only [withs, List.getElem?_cons_zero, List.getElem?_cons_succ, Option.bind, Option.getD]
        repeat (first | (with_reducible refine all_isV ?_) | (with_reducible refine all_isRN ?_; intro Ax kx cx hvx) | (with_reducible refine all_isRP ?_; intro Ax kx cx Bx mx dx hvx hwx))
        go_simp
        exact ⟨Only.refl _ _, isV.self _ _⟩
      refine owes2_cons (fun wx hox => ?_) ?_
      · skip
        skip
        refine withs_plain rfl ?_
        simp only [withs, List.getElem?_cons_zero, List.getElem?_cons_succ, Option.bind, Option.getD]
        repeat (first | (with_reducible refine all_isV ?_) | (with_reducible refine all_isRN ?_; intro Ax kx cx hvx) | (with_reducible refine all_isRP ?_; intro Ax kx cx Bx mx dx hvx hwx))
        go_simp
        (with_reducible exact grow_rp' (rdivmod_v (by assumption) (Lib.hid (HY.out.only hox)) HF2 HFY hY0) HQ.out HR0.out)
      refine owes2_cons (fun wx hox => ?_) ?_
      · skip
        skip
        refine withs_plain rfl ?_
        simp only [withs, List.getElem?_cons_zero, List.getElem?_cons_succ, Option.bind, Option.getD]
        repeat (first | (with_reducible refine all_isV ?_) | (with_reducible refine all_isRN ?_; intro Ax kx cx hvx) | (with_reducible refine all_isRP ?_; intro Ax kx cx Bx mx dx hvx hwx))
        go_simp
        (exact ⟨Only.refl _ _, _, _, _, _, _, _, rfl, hvx.out, hwx.out⟩)
      refine owes2_cons (fun wx hox => ?_) ?_
      · skip
        skip
        refine withs_plain rfl ?_
        simp only [withs, List.getElem?_cons_zero, List.getElem?_cons_succ, Option.bind, Option.getD]
        repeat (first | (with_reducible refine all_isV ?_) | (with_reducible refine all_isRN ?_; intro Ax kx cx hvx) | (with_reducible refine all_isRP ?_; intro Ax kx cx Bx mx dx hvx hwx))
        go_simp
        (exact ⟨Only.refl _ _, _, _, _, rfl, hvx.out⟩)
      refine owes2_cons (fun wx hox => ?_) ?_
      · skip
        skip
        refine withs_plain rfl ?_
        simp only [withs, List.getElem?_cons_zero, List.getElem?_cons_succ, Option.bind, Option.getD]
        repeat (first | (with_reducible refine all_isV ?_) | (with_reducible refine all_isRN ?_; intro Ax kx cx hvx) | (with_reducible refine all_isRP ?_; intro Ax kx cx Bx mx dx hvx hwx))
        go_simp
        (exact ⟨Only.refl _ _, _, _, _, rfl, hwx.out⟩)
      refine owes2_cons (fun wx hox => ?_) ?_
      · skip
        skip
        refine withs_plain rfl ?_
        simp only [withs, List.getElem?_cons_zero, List.getElem?_cons_succ, Option.bind, Option.getD]
        repeat (first | (with_reducible refine all_isV ?_) | (with_reducible refine all_isRN ?_; intro Ax kx cx hvx) | (with_reducible refine all_isRP ?_; intro Ax kx cx Bx mx dx hvx hwx))
        go_simp
        (exact ⟨Only.refl _ _, _, _, _, rfl, hvx.out⟩)
      refine owes2_cons (fun wx hox => ?_) ?_
      · skip
        skip
        refine withs_plain rfl ?_
        simp only [withs, List.getElem?_cons_zero, List.getElem?_cons_succ, Option.bind, Option.getD]
        repeat (first | (with_reducible refine all_isV ?_) | (with_reducible refine all_isRN ?_; intro Ax kx cx hvx) | (with_reducible refine all_isRP ?_; intro Ax kx cx Bx mx dx hvx hwx))
        go_simp
        (exact ⟨Only.refl _ _, _, _, _, rfl, hvx.out⟩)
      exact owes2_nil
    case he =>
      intro wx hox
      refine withs_of (by simp only [List.length, List.range, List.range.loop]; exact rfl) ?_
      simp only [withs, List.getElem?_cons_zero, List.getElem?_cons_succ, Option.bind, Option.getD]
      with_reducible refine all_isV ?_
      with_reducible refine all_isV ?_
      with_reducible refine all_isV ?_
      with_reducible refine all_isRN ?_
      intro A3 k3 c3 hv3
      with_reducible refine all_isV ?_
      with_reducible refine all_isV ?_
      with_reducible refine all_isRP ?_
      intro A6 k6 c6 B6 j6 d6 hv6 hw6
      with_reducible refine all_isRP ?_
      intro A7 k7 c7 B7 j7 d7 hv7 hw7
      with_reducible refine all_isRN ?_
      intro A8 k8 c8 hv8
      with_reducible refine all_isRN ?_
      intro A9 k9 c9 hv9
      with_reducible refine all_isRN ?_
      intro A10 k10 c10 hv10
      with_reducible refine all_isRN ?_
      intro A11 k11 c11 hv11
      go_simp
      replace HK := Lib.hid (HK.out.step hox)
      clear hox HX HY HX2 HQ HR0
      have hkk := HKR.out k11 hv11.out.len
      obtain ⟨i0, i1, i2, -, -, -⟩ := HK.out.c3 2 rfl
      obtain ⟨j0, j1, j2, -, -, -⟩ := HK.out.c3 1 rfl
      go_wp2_with fail
      (with_reducible refine (rcut_d (K := K) ng rest e2 dir P r hr.out hv10 hm.out hK hP1 hP2 he1 he2).mono ?_)
      rintro e w5 ⟨s5, A5, k5, c5, rfl, hc, hv, ho⟩
      replace HK := Lib.hid (HK.out.step ho)
      have HC5 := Lib.hid hc
      have HV5 := Lib.hid hv
      clear hc hv ho i0 i1 i2 j0 j1 j2 hkk hW4 hW5 hng
      obtain ⟨q0, q1, q2, f0, f1, f2⟩ := HK.out.c3 0 rfl
      go_wp2_with fail
      refine bodyPost_ret (v := .agg #[.bool s5, .slice A5 k5 c5, .int .i64 (r.e)]) (by simp [results, Tryz.results50, go_sem, q0, q1, q2]) rfl ?_
      exact rdfin HV5 HC5 (by omega) (HK.out.blk 0 rfl) (noLimb3 _ _ _ _ _) HK.out.only (only_set3 _ _ _ _ _)
    case hl =>
      repeat (refine List.forall_mem_cons.2 ⟨?_, ?_⟩; first | exact isV.lasts _ | exact isRN.lasts _ | exact isRP.lasts _ _)
      exact fun _ h => (by cases h)
  case hl =>
    repeat (refine List.forall_mem_cons.2 ⟨?_, ?_⟩; exact isV.lasts _)
    exact fun _ h => (by cases h)
theorem rquo_d {w : World} {a b : Value} {x y : Dy} {N : Nat} (p dir : Int) (r : Dy) (hr : quoQ (widthP p) (decide (0 ≤ dir)) x y = r) (hy0 : y.z ≠ 0) (ha : Hid (RD w a x)) (hb : Hid (RD w b y)) (hx : Hid (Bnd N x)) (hy : Hid (Bnd N y)) (hN : N ≤ 2000000) : Calls Tryz.prog 50 #[a, b, .int .i64 p, .int .i64 dir] w (RDP r w) := by
  have hex := rlim_i64 hx.out (by omega)
  have hey := rlim_i64 hy.out (by omega)
  obtain ⟨P, hP⟩ : ∃ P, widthP p = P := ⟨_, rfl⟩
  have hw := widthP_range p
  rw [hP] at hw hr
  obtain ⟨s, A, k, c, rfl, hc, hv⟩ := ha.out
  obtain ⟨t, B, m, d, rfl, hd, hu⟩ := hb.out
  have hX := bitsN_le hx.out.z
  have hY := bitsN_le hy.out.z
  have hn : (max ((P : Int) + 2 + (bitsN y.z.natAbs : Int) - (bitsN x.z.natAbs : Int)) 0) = ((quoRn P x y : Nat) : Int) := by unfold quoRn; omega
  have hnl : quoRn P x y ≤ P + 2 + N := by unfold quoRn; omega
  have hx2 : x.z.natAbs * 2 ^ quoRn P x y < 2 ^ (N + (P + 2 + N)) := by
    rw [Nat.pow_add]
    have h1 : x.z.natAbs * 2 ^ quoRn P x y ≤ x.z.natAbs * 2 ^ (P + 2 + N) := Nat.mul_le_mul_left _ (two_mono hnl)
    exact Nat.lt_of_le_of_lt h1 ((Nat.mul_lt_mul_right (Nat.pow_pos (by omega))).2 hx.out.z)
  refine rquo_core (K := N + (P + 2 + N)) p dir P (bitsN x.z.natAbs) (bitsN y.z.natAbs) (quoRn P x y) _ _ _ ((P : Int) + 2) ((P : Int) + 2 + (bitsN y.z.natAbs : Int)) ((P : Int) + 2 + (bitsN y.z.natAbs : Int) - (bitsN x.z.natAbs : Int)) (x.e - y.e) (x.e - y.e - (quoRn P x y : Int)) _ (decide (0 < x.z.natAbs * 2 ^ quoRn P x y % y.z.natAbs)) r (Lib.hid hP) (Lib.hid rfl) (Lib.hid rfl) (wrap_i64 (by omega)) (wrap_i64 (by omega)) (wrap_i64 (by omega)) hn (by omega) (Lib.hid rfl) (Lib.hid rfl) (Lib.hid rfl) (wrap_i64 (by omega)) (wrap_i64 (by omega)) rfl (Lib.hid fun k11 h => ?_) (Lib.hid ?_) hv hu (Lib.hid (rd_few hx.out (by omega))) (Lib.hid (rd_few hy.out (by omega))) (Lib.hid (few_two_pow hx2 (by omega))) (by omega) (Lib.hid (Nat.lt_of_le_of_lt (Nat.div_le_self _ _) hx2)) (by omega) hw.1 (by omega) (by omega) (by omega)
  · rw [h]
    by_cases h0 : x.z.natAbs * 2 ^ quoRn P x y % y.z.natAbs = 0
    · rw [h0, R.limbsOf_zero]; rfl
    · have h1 : (R.limbsOf (x.z.natAbs * 2 ^ quoRn P x y % y.z.natAbs)).length ≠ 0 := fun hc => h0 (by
        have e := R.val_limbsOf (x.z.natAbs * 2 ^ quoRn P x y % y.z.natAbs)
        rw [List.eq_nil_of_length_eq_zero hc] at e
        exact e.symm)
      rw [decide_eq_true (Nat.pos_of_ne_zero h1), decide_eq_true (Nat.pos_of_ne_zero h0)]
  · rw [hc.1, hd.1]
    have h := quo_ref (P := P) (up := decide (0 ≤ dir)) (x := x) (y := y) hw.1 hy0
    unfold quoR at h
    exact h.trans hr

end Go.Proofs.YtkibkmdgibemkaaGreatDoor
