/-
  Dyads: Top, Not, Mul.
-/
import Derived.Test.YtcknigodcjjahaaDoorDyB
namespace Go.Proofs.YtcknigodcjjahaaDoor
set_option linter.unusedSimpArgs false
open Go.RowKit

theorem bits_few {n N : Nat} (h : n < 2 ^ N) (hN : N ≤ 16000000) : bitsN n ≤ 16777216 := Nat.le_trans (bitsN_le h) (by omega)

set_option maxHeartbeats 1600000 in
set_option maxRecDepth 100000 in
theorem top_d {w : World} {a : Value} {x : Dy} {N : Nat} (ha : Hid (DV w a x)) (hx : Hid (Bnd N x)) (hN : N ≤ 8000000) : Calls Tryd.prog 62 #[a] w fun e w' => e = .returned (.int .i64 (topD x)) ∧ Only [] w w' := by
  obtain ⟨s, A, k, c, rfl, hv⟩ := ha.out.form
  have hk := (KB.start w).new 80 [.bool s, .slice A k c, .int .i64 x.e]
  have HX := Lib.hid (hv.only hk.only)
  have HV := DV.of HX
  have HK := Lib.hid hk
  have hxe := lim_i64 hx.out hN
  have hbl := bitsN_le hx.out.z
  have hsg := sign_of x.z
  clear hk hv ha
  by_cases hz : x.z = 0
  · have HR : Hid (topD x = 0) := by show topD x = 0; unfold topD; rw [if_pos hz]
    have hp0 : x.z.sign = 0 := by omega
    replace hp0 := Lib.hid hp0
    clear hsg hz
    go_enter Tryd.func62, Tryd.ntmps62
    go_wp2_with fail
    (with_reducible refine (sign_d HV).mono ?_)
    rintro e1 w2 ⟨rfl, ho⟩
    rw [hp0.out]
    have HO := Lib.hid (HK.out.step ho).only
    clear ho
    go_wp2_with fail
    go_ret
    exact ⟨by rw [HR.out]; rfl, HO.out⟩
  · obtain ⟨p, hp⟩ : ∃ p, x.z.sign = p := ⟨_, rfl⟩
    have hp0 : (p == 0) = false := by rw [beq_eq_false_iff_ne]; omega
    have HR : Hid (topD x = (bitsN x.z.natAbs : Int) + x.e) := by show topD x = _; unfold topD; rw [if_neg hz]
    have hsum : IntKind.i64.wrap ((bitsN x.z.natAbs : Int) + x.e) = (bitsN x.z.natAbs : Int) + x.e := wrap_i64 (by omega)
    replace hp := Lib.hid hp
    clear hsg hz
    go_enter Tryd.func62, Tryd.ntmps62
    go_wp2_with fail
    (with_reducible refine (sign_d HV).mono ?_)
    rintro e1 w2 ⟨rfl, ho⟩
    rw [hp.out]
    replace HX := Lib.hid (HX.out.only ho)
    replace HK := Lib.hid (HK.out.step ho)
    clear ho HV
    go_wp2_with fail
    apply wp_region_typed2 (by kernel_rfl) [isV _, isV _, isV _, isV _, isV _, isV _, isV _, isV _] [[], [0], [1], [2], [], [4], [3, 5], [6]] (by kernel_rfl) (by kernel_rfl)
    case ho =>
      refine owes2_cons (fun wx hox => ?_) ?_
      · skip
        skip
        refine withs_plain rfl ?_
        simp only [withs, List.getElem?_cons_zero, List.getElem?_cons_succ, Option.bind, Option.getD]
        repeat (first | (with_reducible refine all_isV ?_) | (with_reducible refine all_isWC ?_; intro sx Ax kx cx hvx hwx) | (with_reducible refine all_isNR ?_; intro Ax kx cx hvx) | (with_reducible refine all_isNV ?_; intro Ax kx cx hvx) | (with_reducible refine all_isDV ?_; intro sx Ax kx cx hvx) | (with_reducible refine all_isWV ?_; intro sx Ax kx cx hvx) | (with_reducible refine all_isD ?_; intro sx Ax kx cx hvx hwx) | (with_reducible refine all_isRow ?_; intro gx' hbx) | (with_reducible refine all_isPtr ?_; intro gp' hbp hgp) | (with_reducible refine all_isRow1 ?_; intro gx' sr Ar kr cr hbx hvr))
        go_simp
        exact ⟨Only.refl _ _, isV.self _ _⟩
      refine owes2_cons (fun wx hox => ?_) ?_
      · skip
        skip
        refine withs_plain rfl ?_
        simp only [withs, List.getElem?_cons_zero, List.getElem?_cons_succ, Option.bind, Option.getD]
        repeat (first | (with_reducible refine all_isV ?_) | (with_reducible refine all_isWC ?_; intro sx Ax kx cx hvx hwx) | (with_reducible refine all_isNR ?_; intro Ax kx cx hvx) | (with_reducible refine all_isNV ?_; intro Ax kx cx hvx) | (with_reducible refine all_isDV ?_; intro sx Ax kx cx hvx) | (with_reducible refine all_isWV ?_; intro sx Ax kx cx hvx) | (with_reducible refine all_isD ?_; intro sx Ax kx cx hvx hwx) | (with_reducible refine all_isRow ?_; intro gx' hbx) | (with_reducible refine all_isPtr ?_; intro gp' hbp hgp) | (with_reducible refine all_isRow1 ?_; intro gx' sr Ar kr cr hbx hvr))
        go_simp
        exact ⟨Only.refl _ _, isV.self _ _⟩
      refine owes2_cons (fun wx hox => ?_) ?_
      · skip
        have hk := HK.out.step hox
        obtain ⟨a0, a1, a2, -, -, -⟩ := hk.c3 0 rfl
        have ivx := Lib.hid (HX.out.only hox)
        clear hk
        refine withs_plain rfl ?_
        simp only [withs, List.getElem?_cons_zero, List.getElem?_cons_succ, Option.bind, Option.getD]
        repeat (first | (with_reducible refine all_isV ?_) | (with_reducible refine all_isWC ?_; intro sx Ax kx cx hvx hwx) | (with_reducible refine all_isNR ?_; intro Ax kx cx hvx) | (with_reducible refine all_isNV ?_; intro Ax kx cx hvx) | (with_reducible refine all_isDV ?_; intro sx Ax kx cx hvx) | (with_reducible refine all_isWV ?_; intro sx Ax kx cx hvx) | (with_reducible refine all_isD ?_; intro sx Ax kx cx hvx hwx) | (with_reducible refine all_isRow ?_; intro gx' hbx) | (with_reducible refine all_isPtr ?_; intro gp' hbp hgp) | (with_reducible refine all_isRow1 ?_; intro gx' sr Ar kr cr hbx hvr))
        go_simp
        exact ⟨Only.refl _ _, isV.self _ _⟩
      refine owes2_cons (fun wx hox => ?_) ?_
      · skip
        have hk := HK.out.step hox
        obtain ⟨a0, a1, a2, -, -, -⟩ := hk.c3 0 rfl
        have ivx := Lib.hid (HX.out.only hox)
        clear hk
        refine withs_plain rfl ?_
        simp only [withs, List.getElem?_cons_zero, List.getElem?_cons_succ, Option.bind, Option.getD]
        repeat (first | (with_reducible refine all_isV ?_) | (with_reducible refine all_isWC ?_; intro sx Ax kx cx hvx hwx) | (with_reducible refine all_isNR ?_; intro Ax kx cx hvx) | (with_reducible refine all_isNV ?_; intro Ax kx cx hvx) | (with_reducible refine all_isDV ?_; intro sx Ax kx cx hvx) | (with_reducible refine all_isWV ?_; intro sx Ax kx cx hvx) | (with_reducible refine all_isD ?_; intro sx Ax kx cx hvx hwx) | (with_reducible refine all_isRow ?_; intro gx' hbx) | (with_reducible refine all_isPtr ?_; intro gp' hbp hgp) | (with_reducible refine all_isRow1 ?_; intro gx' sr Ar kr cr hbx hvr))
        go_simp
        (with_reducible exact grow_same (bits_v (Lib.hid ivx.out.mag)))
      refine owes2_cons (fun wx hox => ?_) ?_
      · skip
        skip
        refine withs_plain rfl ?_
        simp only [withs, List.getElem?_cons_zero, List.getElem?_cons_succ, Option.bind, Option.getD]
        repeat (first | (with_reducible refine all_isV ?_) | (with_reducible refine all_isWC ?_; intro sx Ax kx cx hvx hwx) | (with_reducible refine all_isNR ?_; intro Ax kx cx hvx) | (with_reducible refine all_isNV ?_; intro Ax kx cx hvx) | (with_reducible refine all_isDV ?_; intro sx Ax kx cx hvx) | (with_reducible refine all_isWV ?_; intro sx Ax kx cx hvx) | (with_reducible refine all_isD ?_; intro sx Ax kx cx hvx hwx) | (with_reducible refine all_isRow ?_; intro gx' hbx) | (with_reducible refine all_isPtr ?_; intro gp' hbp hgp) | (with_reducible refine all_isRow1 ?_; intro gx' sr Ar kr cr hbx hvr))
        go_simp
        exact ⟨Only.refl _ _, isV.self _ _⟩
      refine owes2_cons (fun wx hox => ?_) ?_
      · skip
        have hk := HK.out.step hox
        obtain ⟨a0, a1, a2, -, -, -⟩ := hk.c3 0 rfl
        have ivx := Lib.hid (HX.out.only hox)
        clear hk
        refine withs_plain rfl ?_
        simp only [withs, List.getElem?_cons_zero, List.getElem?_cons_succ, Option.bind, Option.getD]
        repeat (first | (with_reducible refine all_isV ?_) | (with_reducible refine all_isWC ?_; intro sx Ax kx cx hvx hwx) | (with_reducible refine all_isNR ?_; intro Ax kx cx hvx) | (with_reducible refine all_isNV ?_; intro Ax kx cx hvx) | (with_reducible refine all_isDV ?_; intro sx Ax kx cx hvx) | (with_reducible refine all_isWV ?_; intro sx Ax kx cx hvx) | (with_reducible refine all_isD ?_; intro sx Ax kx cx hvx hwx) | (with_reducible refine all_isRow ?_; intro gx' hbx) | (with_reducible refine all_isPtr ?_; intro gp' hbp hgp) | (with_reducible refine all_isRow1 ?_; intro gx' sr Ar kr cr hbx hvr))
        go_simp
        exact ⟨Only.refl _ _, isV.self _ _⟩
      refine owes2_cons (fun wx hox => ?_) ?_
      · skip
        skip
        refine withs_plain rfl ?_
        simp only [withs, List.getElem?_cons_zero, List.getElem?_cons_succ, Option.bind, Option.getD]
        repeat (first | (with_reducible refine all_isV ?_) | (with_reducible refine all_isWC ?_; intro sx Ax kx cx hvx hwx) | (with_reducible refine all_isNR ?_; intro Ax kx cx hvx) | (with_reducible refine all_isNV ?_; intro Ax kx cx hvx) | (with_reducible refine all_isDV ?_; intro sx Ax kx cx hvx) | (with_reducible refine all_isWV ?_; intro sx Ax kx cx hvx) | (with_reducible refine all_isD ?_; intro sx Ax kx cx hvx hwx) | (with_reducible refine all_isRow ?_; intro gx' hbx) | (with_reducible refine all_isPtr ?_; intro gp' hbp hgp) | (with_reducible refine all_isRow1 ?_; intro gx' sr Ar kr cr hbx hvr))
        go_simp
        exact ⟨Only.refl _ _, isV.self _ _⟩
      refine owes2_cons (fun wx hox => ?_) ?_
      · skip
        skip
        refine withs_plain rfl ?_
        simp only [withs, List.getElem?_cons_zero, List.getElem?_cons_succ, Option.bind, Option.getD]
        repeat (first | (with_reducible refine all_isV ?_) | (with_reducible refine all_isWC ?_; intro sx Ax kx cx hvx hwx) | (with_reducible refine all_isNR ?_; intro Ax kx cx hvx) | (with_reducible refine all_isNV ?_; intro Ax kx cx hvx) | (with_reducible refine all_isDV ?_; intro sx Ax kx cx hvx) | (with_reducible refine all_isWV ?_; intro sx Ax kx cx hvx) | (with_reducible refine all_isD ?_; intro sx Ax kx cx hvx hwx) | (with_reducible refine all_isRow ?_; intro gx' hbx) | (with_reducible refine all_isPtr ?_; intro gp' hbp hgp) | (with_reducible refine all_isRow1 ?_; intro gx' sr Ar kr cr hbx hvr))
        go_simp
        exact ⟨Only.refl _ _, isV.self _ _⟩
      exact owes2_nil
    case he =>
      intro wx hox
      refine withs_of (by simp only [List.length, List.range, List.range.loop]; exact rfl) ?_
      simp only [withs, List.getElem?_cons_zero, List.getElem?_cons_succ, Option.bind, Option.getD]
      repeat (first | (with_reducible refine all_isV ?_) | (with_reducible refine all_isWC ?_; intro sx Ax kx cx hvx hwx) | (with_reducible refine all_isNR ?_; intro Ax kx cx hvx) | (with_reducible refine all_isNV ?_; intro Ax kx cx hvx) | (with_reducible refine all_isDV ?_; intro sx Ax kx cx hvx) | (with_reducible refine all_isWV ?_; intro sx Ax kx cx hvx) | (with_reducible refine all_isD ?_; intro sx Ax kx cx hvx hwx) | (with_reducible refine all_isRow ?_; intro gx' hbx) | (with_reducible refine all_isPtr ?_; intro gp' hbp hgp) | (with_reducible refine all_isRow1 ?_; intro gx' sr Ar kr cr hbx hvr))
      go_simp
      go_wp2_with fail
      go_ret
      exact ⟨by rw [HR.out]; rfl, HK.out.only.nil_trans hox⟩
    case hl =>
      repeat (refine List.forall_mem_cons.2 ⟨?_, ?_⟩; first | exact isV.lasts _ | exact isD.lasts _ | exact isNV.lasts _ | exact isDV.lasts _ | exact isWV.lasts _ | exact isWC.lasts _ | exact isNR.lasts _ _ | exact isWR.lasts _ _ | exact isRow.lasts _ _ _ | exact isPtr.lasts _ _ _ | exact isRow1.lasts _)
      exact fun _ h => (by cases h)

set_option maxHeartbeats 1600000 in
set_option maxRecDepth 100000 in
theorem not_d {w : World} {a : Value} {x : Dy} {N : Nat} (ha : Hid (DV w a x)) (hx : Hid (Bnd N x)) (hN : N ≤ 8000000) (hT : Hid (Tab6 w)) : Calls Tryd.prog 63 #[a] w (DPost (dNot x) w) := by
  unfold dNot
  obtain ⟨s, A, k, c, rfl, hv⟩ := ha.out.form
  have hk := ((KB.start w).new 80 [.bool s, .slice A k c, .int .i64 x.e]).new 80 [.bool false, .slice none 0 0, .int .i64 0]
  simp only [World.size_alloc] at hk
  have HX := Lib.hid (hv.only hk.only)
  have HK := Lib.hid hk
  have HT := Lib.hid (hT.out.keep hk.only)
  have hxe := lim_i64 hx.out hN
  have HB : Hid (bitsN (-x.z).natAbs ≤ 16777216) := by show _ ≤ _; rw [Int.natAbs_neg]; exact bits_few hx.out.z (by omega)
  clear hk hv ha hT
  go_enter Tryd.func63, Tryd.ntmps63
  go_wp2_with fail
  generalize (w.alloc (.cells #[.bool s, .slice A k c, .int .i64 x.e] 80)).alloc (.cells #[.bool false, .slice none 0 0, .int .i64 0] 80) = w1 at *
  apply wp_region_typed_tail2 6 (by kernel_rfl) [isV _, isV _, isWC (-x.z), isV _, isV _, isD (nrm (-x.z) x.e)] [[], [0], [1], [], [3], [2, 4]] (by kernel_rfl) (by kernel_rfl) (by kernel_rfl)
  case ho =>
    simp only [List.take_succ_cons, List.take_zero]
    refine owes2_cons (fun wx hox => ?_) ?_
    · skip
      skip
      refine withs_plain rfl ?_
      simp only [withs, List.getElem?_cons_zero, List.getElem?_cons_succ, Option.bind, Option.getD]
      repeat (first | (with_reducible refine all_isV ?_) | (with_reducible refine all_isWC ?_; intro sx Ax kx cx hvx hwx) | (with_reducible refine all_isNR ?_; intro Ax kx cx hvx) | (with_reducible refine all_isNV ?_; intro Ax kx cx hvx) | (with_reducible refine all_isDV ?_; intro sx Ax kx cx hvx) | (with_reducible refine all_isWV ?_; intro sx Ax kx cx hvx) | (with_reducible refine all_isD ?_; intro sx Ax kx cx hvx hwx) | (with_reducible refine all_isRow ?_; intro gx' hbx) | (with_reducible refine all_isPtr ?_; intro gp' hbp hgp) | (with_reducible refine all_isRow1 ?_; intro gx' sr Ar kr cr hbx hvr))
      go_simp
      exact ⟨Only.refl _ _, isV.self _ _⟩
    refine owes2_cons (fun wx hox => ?_) ?_
    · skip
      have hk := HK.out.step hox
      obtain ⟨a0, a1, a2, -, -, -⟩ := hk.c3 1 rfl
      have ivx := Lib.hid (HX.out.only hox)
      have htx := Lib.hid (HT.out.keep hox)
      clear hk
      refine withs_plain rfl ?_
      simp only [withs, List.getElem?_cons_zero, List.getElem?_cons_succ, Option.bind, Option.getD]
      repeat (first | (with_reducible refine all_isV ?_) | (with_reducible refine all_isWC ?_; intro sx Ax kx cx hvx hwx) | (with_reducible refine all_isNR ?_; intro Ax kx cx hvx) | (with_reducible refine all_isNV ?_; intro Ax kx cx hvx) | (with_reducible refine all_isDV ?_; intro sx Ax kx cx hvx) | (with_reducible refine all_isWV ?_; intro sx Ax kx cx hvx) | (with_reducible refine all_isD ?_; intro sx Ax kx cx hvx hwx) | (with_reducible refine all_isRow ?_; intro gx' hbx) | (with_reducible refine all_isPtr ?_; intro gp' hbp hgp) | (with_reducible refine all_isRow1 ?_; intro gx' sr Ar kr cr hbx hvr))
      go_simp
      exact ⟨Only.refl _ _, isV.self _ _⟩
    refine owes2_cons (fun wx hox => ?_) ?_
    · skip
      have hk := HK.out.step hox
      obtain ⟨a0, a1, a2, -, -, -⟩ := hk.c3 1 rfl
      have ivx := Lib.hid (HX.out.only hox)
      have htx := Lib.hid (HT.out.keep hox)
      clear hk
      refine withs_plain rfl ?_
      simp only [withs, List.getElem?_cons_zero, List.getElem?_cons_succ, Option.bind, Option.getD]
      repeat (first | (with_reducible refine all_isV ?_) | (with_reducible refine all_isWC ?_; intro sx Ax kx cx hvx hwx) | (with_reducible refine all_isNR ?_; intro Ax kx cx hvx) | (with_reducible refine all_isNV ?_; intro Ax kx cx hvx) | (with_reducible refine all_isDV ?_; intro sx Ax kx cx hvx) | (with_reducible refine all_isWV ?_; intro sx Ax kx cx hvx) | (with_reducible refine all_isD ?_; intro sx Ax kx cx hvx hwx) | (with_reducible refine all_isRow ?_; intro gx' hbx) | (with_reducible refine all_isPtr ?_; intro gp' hbp hgp) | (with_reducible refine all_isRow1 ?_; intro gx' sr Ar kr cr hbx hvr))
      go_simp
      (with_reducible exact grow_wc (not_w ivx))
    refine owes2_cons (fun wx hox => ?_) ?_
    · skip
      skip
      refine withs_plain rfl ?_
      simp only [withs, List.getElem?_cons_zero, List.getElem?_cons_succ, Option.bind, Option.getD]
      repeat (first | (with_reducible refine all_isV ?_) | (with_reducible refine all_isWC ?_; intro sx Ax kx cx hvx hwx) | (with_reducible refine all_isNR ?_; intro Ax kx cx hvx) | (with_reducible refine all_isNV ?_; intro Ax kx cx hvx) | (with_reducible refine all_isDV ?_; intro sx Ax kx cx hvx) | (with_reducible refine all_isWV ?_; intro sx Ax kx cx hvx) | (with_reducible refine all_isD ?_; intro sx Ax kx cx hvx hwx) | (with_reducible refine all_isRow ?_; intro gx' hbx) | (with_reducible refine all_isPtr ?_; intro gp' hbp hgp) | (with_reducible refine all_isRow1 ?_; intro gx' sr Ar kr cr hbx hvr))
      go_simp
      exact ⟨Only.refl _ _, isV.self _ _⟩
    refine owes2_cons (fun wx hox => ?_) ?_
    · skip
      have hk := HK.out.step hox
      obtain ⟨a0, a1, a2, -, -, -⟩ := hk.c3 1 rfl
      have ivx := Lib.hid (HX.out.only hox)
      have htx := Lib.hid (HT.out.keep hox)
      clear hk
      refine withs_plain rfl ?_
      simp only [withs, List.getElem?_cons_zero, List.getElem?_cons_succ, Option.bind, Option.getD]
      repeat (first | (with_reducible refine all_isV ?_) | (with_reducible refine all_isWC ?_; intro sx Ax kx cx hvx hwx) | (with_reducible refine all_isNR ?_; intro Ax kx cx hvx) | (with_reducible refine all_isNV ?_; intro Ax kx cx hvx) | (with_reducible refine all_isDV ?_; intro sx Ax kx cx hvx) | (with_reducible refine all_isWV ?_; intro sx Ax kx cx hvx) | (with_reducible refine all_isD ?_; intro sx Ax kx cx hvx hwx) | (with_reducible refine all_isRow ?_; intro gx' hbx) | (with_reducible refine all_isPtr ?_; intro gp' hbp hgp) | (with_reducible refine all_isRow1 ?_; intro gx' sr Ar kr cr hbx hvr))
      go_simp
      exact ⟨Only.refl _ _, isV.self _ _⟩
    refine owes2_cons (fun wx hox => ?_) ?_
    · skip
      have hk := HK.out.step hox
      obtain ⟨a0, a1, a2, -, -, -⟩ := hk.c3 1 rfl
      have ivx := Lib.hid (HX.out.only hox)
      have htx := Lib.hid (HT.out.keep hox)
      clear hk
      refine withs_plain rfl ?_
      simp only [withs, List.getElem?_cons_zero, List.getElem?_cons_succ, Option.bind, Option.getD]
      repeat (first | (with_reducible refine all_isV ?_) | (with_reducible refine all_isWC ?_; intro sx Ax kx cx hvx hwx) | (with_reducible refine all_isNR ?_; intro Ax kx cx hvx) | (with_reducible refine all_isNV ?_; intro Ax kx cx hvx) | (with_reducible refine all_isDV ?_; intro sx Ax kx cx hvx) | (with_reducible refine all_isWV ?_; intro sx Ax kx cx hvx) | (with_reducible refine all_isD ?_; intro sx Ax kx cx hvx hwx) | (with_reducible refine all_isRow ?_; intro gx' hbx) | (with_reducible refine all_isPtr ?_; intro gp' hbp hgp) | (with_reducible refine all_isRow1 ?_; intro gx' sr Ar kr cr hbx hvr))
      go_simp
      (with_reducible exact grow_d (make_d (by assumption) HB (by omega) (by omega) htx))
    exact owes2_nil
  case he =>
    simp only [List.drop_succ_cons, List.drop_zero]
    intro wx hox
    refine withs_of (by simp only [List.length, List.range, List.range.loop]; exact rfl) ?_
    simp only [withs, List.getElem?_cons_zero, List.getElem?_cons_succ, Option.bind, Option.getD]
    repeat (first | (with_reducible refine all_isV ?_) | (with_reducible refine all_isWC ?_; intro sx Ax kx cx hvx hwx) | (with_reducible refine all_isNR ?_; intro Ax kx cx hvx) | (with_reducible refine all_isNV ?_; intro Ax kx cx hvx) | (with_reducible refine all_isDV ?_; intro sx Ax kx cx hvx) | (with_reducible refine all_isWV ?_; intro sx Ax kx cx hvx) | (with_reducible refine all_isD ?_; intro sx Ax kx cx hvx hwx) | (with_reducible refine all_isRow ?_; intro gx' hbx) | (with_reducible refine all_isPtr ?_; intro gp' hbp hgp) | (with_reducible refine all_isRow1 ?_; intro gx' sr Ar kr cr hbx hvr))
    go_simp
    have hk := HK.out.step hox
    obtain ⟨c0, c1', c2, f0, f1, f2⟩ := hk.c3 0 rfl
    replace hk := Lib.hid hk
    clear hox
    go_wp2_with fail
    refine bodyPost_ret (v := .agg #[.bool sx, .slice Ax kx cx, .int .i64 ((nrm (-x.z) x.e).e)]) (by simp [results, Tryd.results63, go_sem, c0, c1', c2]) rfl ?_
    exact dfin (x := nrm (-x.z) x.e) (by assumption) (by assumption) (by omega) (hk.out.blk 0 rfl) (noLimb3 _ _ _ _ _) hk.out.only (only_set3 _ _ _ _ _)
  case hl =>
    repeat (refine List.forall_mem_cons.2 ⟨?_, ?_⟩; first | exact isV.lasts _ | exact isD.lasts _ | exact isNV.lasts _ | exact isDV.lasts _ | exact isWV.lasts _ | exact isWC.lasts _ | exact isNR.lasts _ _ | exact isWR.lasts _ _ | exact isRow.lasts _ _ _ | exact isPtr.lasts _ _ _ | exact isRow1.lasts _)
    exact fun _ h => (by cases h)

end Go.Proofs.YtcknigodcjjahaaDoor
