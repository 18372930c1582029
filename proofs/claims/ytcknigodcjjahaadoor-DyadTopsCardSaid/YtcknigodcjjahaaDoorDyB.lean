/-
  Dyads: Make, Of, Sign, Top.
-/
import Derived.Test.YtcknigodcjjahaaDoorDyA
namespace Go.Proofs.YtcknigodcjjahaaDoor
set_option linter.unusedSimpArgs false
open Go.RowKit

theorem Tab6.keep {w w' : World} (h : Tab6 w) (ho : Only [] w w') : Tab6 w' := by
  unfold Tab6 at *
  exact tabis_only h ho
theorem IV.zero (w : World) : IV w (.agg #[.bool false, .slice none 0 0]) 0 := ⟨false, none, 0, 0, 0, rfl, NV.nil w, rfl⟩
set_option maxHeartbeats 1600000 in
set_option maxRecDepth 100000 in
theorem make_d {w : World} {m : Value} {z e : Int} (ha : Hid (IV w m z)) (hb : Hid (bitsN z.natAbs ≤ 16777216)) (h1 : -4000000000000000000 ≤ e) (h2 : e ≤ 4000000000000000000) (hT : Hid (Tab6 w)) : Calls Tryd.prog 64 #[m, .int .i64 e] w (DPost (nrm z e) w) := by
  obtain ⟨s, A, k, c, rfl, hs⟩ := ha.out.form
  have hk := ((KB.start w).new 51 [.bool s, .slice A k c]).new 80 [.bool false, .slice none 0 0, .int .i64 0]
  simp only [World.size_alloc] at hk
  have HX := Lib.hid (ha.out.only hk.only)
  have HM := Lib.hid HX.out.mag
  have HT := Lib.hid (hT.out.keep hk.only)
  have HK := Lib.hid hk
  have hsg := sign_of z
  clear ha hk hT
  by_cases hz : z = 0
  · subst hz
    clear hsg
    go_enter Tryd.func64, Tryd.ntmps64
    go_wp2_with fail
    (with_reducible refine (sign_w HX).mono ?_)
    rintro e1 w2 ⟨rfl, ho⟩
    rw [Int.sign_zero]
    have hk := HK.out.step ho
    obtain ⟨c0, c1', c2, f0, f1, f2⟩ := hk.c3 0 rfl
    replace hk := Lib.hid hk
    clear ho
    go_wp2_with fail
    refine bodyPost_ret (v := .agg #[.bool false, .slice none 0 0, .int .i64 (0)]) (by simp [results, Tryd.results64, go_sem, c0, c1', c2]) rfl ?_
    rw [nrm_zero]
    exact dfin (x := ⟨0, 0⟩) ⟨by decide, by show 0 = (limbsOf 0).length; rw [limbsOf_zero]; rfl⟩ (IV.zero _) (by omega) (hk.out.blk 0 rfl) (noLimb3 _ _ _ _ _) hk.out.only (only_set3 _ _ _ _ _)
  · obtain ⟨p, hp⟩ : ∃ p, z.sign = p := ⟨_, rfl⟩
    have hp0 : (p == 0) = false := by rw [beq_eq_false_iff_ne]; omega
    have hlo : (lowN z.natAbs : Int) ≤ 16777216 := by have := lowN_le_bits z.natAbs; have := hb.out; omega
    clear hb
    have hN := nrm_nz e hz
    obtain rfl : s = decide (z < 0) := by cases s <;> simp only [sg_false, sg_true] at hs <;> simp <;> omega
    obtain ⟨l, hq⟩ : ∃ l, lowN z.natAbs = l := ⟨_, rfl⟩
    rw [hq] at hN hlo
    have HQ := Lib.hid hq
    rw [hN]
    clear hq
    generalize decide (z < 0) = s at *
    have hsum : IntKind.i64.wrap (e + (l : Int)) = e + (l : Int) := wrap_i64 (by omega)
    replace hp := Lib.hid hp
    clear hsg hz hN hs
    go_enter Tryd.func64, Tryd.ntmps64
    go_wp2_with fail
    (with_reducible refine (sign_w HX).mono ?_)
    rintro e1 w2 ⟨rfl, ho⟩
    rw [hp.out]
    have hk := HK.out.step ho
    obtain ⟨c0, c1', f0, f1⟩ := hk.c2 1 rfl
    have HM2 := Lib.hid (HM.out.only ho)
    have HT2 := Lib.hid (HT.out.keep ho)
    replace HK := Lib.hid hk
    clear ho hk HM HT
    go_wp2_with fail
    (with_reducible refine (low_v HM2 HT2).mono ?_)
    rintro e2 w3 ⟨rfl, rfl⟩
    rw [HQ.out]
    go_upto_region 4 with fail
    clear HX c0 c1' f0 f1 hp0
    apply wp_region_typed_tail2 11 (by kernel_rfl) [isV _, isV _, isV _, isV _, isV _, isNR w2 (z.natAbs / 2 ^ l), isWC (sg s (z.natAbs / 2 ^ l)), isV _, isV _, isV _, isD ⟨sg s (z.natAbs / 2 ^ l), e + (l : Int)⟩] [[], [0], [], [2], [], [3, 4], [1, 5], [], [], [7, 8], [6, 9]] (by kernel_rfl) (by kernel_rfl) (by kernel_rfl)
    case ho =>
      simp only [List.take_succ_cons, List.take_zero]
      refine owes2_cons (fun wx hox => ?_) ?_
      · skip
        skip
        refine withs_plain rfl ?_
        simp only [withs, List.getElem?_cons_zero, List.getElem?_cons_succ, Option.bind, Option.getD]
        repeat (first | (with_reducible refine all_isV ?_) | (with_reducible refine all_isWC ?_; intro sx Ax kx cx hvx hwx) | (with_reducible refine all_isNR ?_; intro Ax kx cx hvx) | (with_reducible refine all_isNV ?_; intro Ax kx cx hvx) | (with_reducible refine all_isDV ?_; intro sx Ax kx cx hvx) | (with_reducible refine all_isWV ?_; intro sx Ax kx cx hvx) | (with_reducible refine all_isD ?_; intro sx Ax kx cx hvx hwx) | (with_reducible refine all_isRow ?_; intro gx' hbx) | (with_reducible refine all_isPtr ?_; intro gp' hbp hgp) | (with_reducible refine all_isRow1 ?_; intro gx' sr Ar kr cr hbx hvr))
        go_simp
        exact ⟨Only.refl _ _, isV.self _ _⟩
      refine owes2_cons (fun wx hox => ?_) ?_
      · skip
        have hk := HK.out.step hox
        obtain ⟨b0, b1, -, -⟩ := hk.c2 1 rfl
        clear hk
        refine withs_plain rfl ?_
        simp only [withs, List.getElem?_cons_zero, List.getElem?_cons_succ, Option.bind, Option.getD]
        repeat (first | (with_reducible refine all_isV ?_) | (with_reducible refine all_isWC ?_; intro sx Ax kx cx hvx hwx) | (with_reducible refine all_isNR ?_; intro Ax kx cx hvx) | (with_reducible refine all_isNV ?_; intro Ax kx cx hvx) | (with_reducible refine all_isDV ?_; intro sx Ax kx cx hvx) | (with_reducible refine all_isWV ?_; intro sx Ax kx cx hvx) | (with_reducible refine all_isD ?_; intro sx Ax kx cx hvx hwx) | (with_reducible refine all_isRow ?_; intro gx' hbx) | (with_reducible refine all_isPtr ?_; intro gp' hbp hgp) | (with_reducible refine all_isRow1 ?_; intro gx' sr Ar kr cr hbx hvr))
        go_simp
        exact ⟨Only.refl _ _, isV.self _ _⟩
      refine owes2_cons (fun wx hox => ?_) ?_
      · skip
        skip
        refine withs_plain rfl ?_
        simp only [withs, List.getElem?_cons_zero, List.getElem?_cons_succ, Option.bind, Option.getD]
        repeat (first | (with_reducible refine all_isV ?_) | (with_reducible refine all_isWC ?_; intro sx Ax kx cx hvx hwx) | (with_reducible refine all_isNR ?_; intro Ax kx cx hvx) | (with_reducible refine all_isNV ?_; intro Ax kx cx hvx) | (with_reducible refine all_isDV ?_; intro sx Ax kx cx hvx) | (with_reducible refine all_isWV ?_; intro sx Ax kx cx hvx) | (with_reducible refine all_isD ?_; intro sx Ax kx cx hvx hwx) | (with_reducible refine all_isRow ?_; intro gx' hbx) | (with_reducible refine all_isPtr ?_; intro gp' hbp hgp) | (with_reducible refine all_isRow1 ?_; intro gx' sr Ar kr cr hbx hvr))
        go_simp
        exact ⟨Only.refl _ _, isV.self _ _⟩
      refine owes2_cons (fun wx hox => ?_) ?_
      · skip
        have hk := HK.out.step hox
        obtain ⟨b0, b1, -, -⟩ := hk.c2 1 rfl
        clear hk
        refine withs_plain rfl ?_
        simp only [withs, List.getElem?_cons_zero, List.getElem?_cons_succ, Option.bind, Option.getD]
        repeat (first | (with_reducible refine all_isV ?_) | (with_reducible refine all_isWC ?_; intro sx Ax kx cx hvx hwx) | (with_reducible refine all_isNR ?_; intro Ax kx cx hvx) | (with_reducible refine all_isNV ?_; intro Ax kx cx hvx) | (with_reducible refine all_isDV ?_; intro sx Ax kx cx hvx) | (with_reducible refine all_isWV ?_; intro sx Ax kx cx hvx) | (with_reducible refine all_isD ?_; intro sx Ax kx cx hvx hwx) | (with_reducible refine all_isRow ?_; intro gx' hbx) | (with_reducible refine all_isPtr ?_; intro gp' hbp hgp) | (with_reducible refine all_isRow1 ?_; intro gx' sr Ar kr cr hbx hvr))
        go_simp
        exact ⟨Only.refl _ _, isV.self _ _⟩
      refine owes2_cons (fun wx hox => ?_) ?_
      · skip
        skip
        refine withs_plain rfl ?_
        simp only [withs, List.getElem?_cons_zero, List.getElem?_cons_succ, Option.bind, Option.getD]
        repeat (first | (with_reducible refine all_isV ?_) | (with_reducible refine all_isWC ?_; intro sx Ax kx cx hvx hwx) | (with_reducible refine all_isNR ?_; intro Ax kx cx hvx) | (with_reducible refine all_isNV ?_; intro Ax kx cx hvx) | (with_reducible refine all_isDV ?_; intro sx Ax kx cx hvx) | (with_reducible refine all_isWV ?_; intro sx Ax kx cx hvx) | (with_reducible refine all_isD ?_; intro sx Ax kx cx hvx hwx) | (with_reducible refine all_isRow ?_; intro gx' hbx) | (with_reducible refine all_isPtr ?_; intro gp' hbp hgp) | (with_reducible refine all_isRow1 ?_; intro gx' sr Ar kr cr hbx hvr))
        go_simp
        exact ⟨Only.refl _ _, isV.self _ _⟩
      refine owes2_cons (fun wx hox => ?_) ?_
      · skip
        have hk := HK.out.step hox
        obtain ⟨b0, b1, -, -⟩ := hk.c2 1 rfl
        clear hk
        refine withs_plain rfl ?_
        simp only [withs, List.getElem?_cons_zero, List.getElem?_cons_succ, Option.bind, Option.getD]
        repeat (first | (with_reducible refine all_isV ?_) | (with_reducible refine all_isWC ?_; intro sx Ax kx cx hvx hwx) | (with_reducible refine all_isNR ?_; intro Ax kx cx hvx) | (with_reducible refine all_isNV ?_; intro Ax kx cx hvx) | (with_reducible refine all_isDV ?_; intro sx Ax kx cx hvx) | (with_reducible refine all_isWV ?_; intro sx Ax kx cx hvx) | (with_reducible refine all_isD ?_; intro sx Ax kx cx hvx hwx) | (with_reducible refine all_isRow ?_; intro gx' hbx) | (with_reducible refine all_isPtr ?_; intro gp' hbp hgp) | (with_reducible refine all_isRow1 ?_; intro gx' sr Ar kr cr hbx hvr))
        go_simp
        (with_reducible exact grow_n (right_d l hlo (Lib.hid (HM2.out.only hox))) hox)
      refine owes2_cons (fun wx hox => ?_) ?_
      · skip
        have hk := HK.out.step hox
        obtain ⟨b0, b1, -, -⟩ := hk.c2 1 rfl
        clear hk
        refine withs_plain rfl ?_
        simp only [withs, List.getElem?_cons_zero, List.getElem?_cons_succ, Option.bind, Option.getD]
        repeat (first | (with_reducible refine all_isV ?_) | (with_reducible refine all_isWC ?_; intro sx Ax kx cx hvx hwx) | (with_reducible refine all_isNR ?_; intro Ax kx cx hvx) | (with_reducible refine all_isNV ?_; intro Ax kx cx hvx) | (with_reducible refine all_isDV ?_; intro sx Ax kx cx hvx) | (with_reducible refine all_isWV ?_; intro sx Ax kx cx hvx) | (with_reducible refine all_isD ?_; intro sx Ax kx cx hvx hwx) | (with_reducible refine all_isRow ?_; intro gx' hbx) | (with_reducible refine all_isPtr ?_; intro gp' hbp hgp) | (with_reducible refine all_isRow1 ?_; intro gx' sr Ar kr cr hbx hvr))
        go_simp
        (with_reducible exact grow_wc (make_w s (by assumption)))
      refine owes2_cons (fun wx hox => ?_) ?_
      · skip
        skip
        refine withs_plain rfl ?_
        simp only [withs, List.getElem?_cons_zero, List.getElem?_cons_succ, Option.bind, Option.getD]
        repeat (first | (with_reducible refine all_isV ?_) | (with_reducible refine all_isWC ?_; intro sx Ax kx cx hvx hwx) | (with_reducible refine all_isNR ?_; intro Ax kx cx hvx) | (with_reducible refine all_isNV ?_; intro Ax kx cx hvx) | (with_reducible refine all_isDV ?_; intro sx Ax kx cx hvx) | (with_reducible refine all_isWV ?_; intro sx Ax kx cx hvx) | (with_reducible refine all_isD ?_; intro sx Ax kx cx hvx hwx) | (with_reducible refine all_isRow ?_; intro gx' hbx) | (with_reducible refine all_isPtr ?_; intro gp' hbp hgp) | (with_reducible refine all_isRow1 ?_; intro gx' sr Ar kr cr hbx hvr))
        go_simp
        exact ⟨Only.refl _ _, isV.self _ _⟩
      refine owes2_cons (fun wx hox => ?_) ?_
      · skip
        skip
        refine withs_plain rfl ?_
        simp only [withs, List.getElem?_cons_zero, List.getElem?_cons_succ, Option.bind, Option.getD]
        repeat (first | (with_reducible refine all_isV ?_) | (with_reducible refine all_isWC ?_; intro sx Ax kx cx hvx hwx) | (with_reducible refine all_isNR ?_; intro Ax kx cx hvx) | (with_reducible refine all_isNV ?_; intro Ax kx cx hvx) | (with_reducible refine all_isDV ?_; intro sx Ax kx cx hvx) | (with_reducible refine all_isWV ?_; intro sx Ax kx cx hvx) | (with_reducible refine all_isD ?_; intro sx Ax kx cx hvx hwx) | (with_reducible refine all_isRow ?_; intro gx' hbx) | (with_reducible refine all_isPtr ?_; intro gp' hbp hgp) | (with_reducible refine all_isRow1 ?_; intro gx' sr Ar kr cr hbx hvr))
        go_simp
        exact ⟨Only.refl _ _, isV.self _ _⟩
      refine owes2_cons (fun wx hox => ?_) ?_
      · skip
        skip
        refine withs_plain rfl ?_
        simp only [withs, List.getElem?_cons_zero, List.getElem?_cons_succ, Option.bind, Option.getD]
        repeat (first | (with_reducible refine all_isV ?_) | (with_reducible refine all_isWC ?_; intro sx Ax kx cx hvx hwx) | (with_reducible refine all_isNR ?_; intro Ax kx cx hvx) | (with_reducible refine all_isNV ?_; intro Ax kx cx hvx) | (with_reducible refine all_isDV ?_; intro sx Ax kx cx hvx) | (with_reducible refine all_isWV ?_; intro sx Ax kx cx hvx) | (with_reducible refine all_isD ?_; intro sx Ax kx cx hvx hwx) | (with_reducible refine all_isRow ?_; intro gx' hbx) | (with_reducible refine all_isPtr ?_; intro gp' hbp hgp) | (with_reducible refine all_isRow1 ?_; intro gx' sr Ar kr cr hbx hvr))
        go_simp
        exact ⟨Only.refl _ _, isV.self _ _⟩
      refine owes2_cons (fun wx hox => ?_) ?_
      · skip
        skip
        refine withs_plain rfl ?_
        simp only [withs, List.getElem?_cons_zero, List.getElem?_cons_succ, Option.bind, Option.getD]
        repeat (first | (with_reducible refine all_isV ?_) | (with_reducible refine all_isWC ?_; intro sx Ax kx cx hvx hwx) | (with_reducible refine all_isNR ?_; intro Ax kx cx hvx) | (with_reducible refine all_isNV ?_; intro Ax kx cx hvx) | (with_reducible refine all_isDV ?_; intro sx Ax kx cx hvx) | (with_reducible refine all_isWV ?_; intro sx Ax kx cx hvx) | (with_reducible refine all_isD ?_; intro sx Ax kx cx hvx hwx) | (with_reducible refine all_isRow ?_; intro gx' hbx) | (with_reducible refine all_isPtr ?_; intro gp' hbp hgp) | (with_reducible refine all_isRow1 ?_; intro gx' sr Ar kr cr hbx hvr))
        go_simp
        (exact ⟨Only.refl _ _, isD.of (x := ⟨sg s (z.natAbs / 2 ^ l), e + (l : Int)⟩) (by assumption) (by assumption)⟩)
      exact owes2_nil
    case he =>
      simp only [List.drop_succ_cons, List.drop_zero]
      intro wx hox
      refine withs_of (by simp only [List.length, List.range, List.range.loop]; exact rfl) ?_
      simp only [withs, List.getElem?_cons_zero, List.getElem?_cons_succ, Option.bind, Option.getD]
      repeat (first | (with_reducible refine all_isV ?_) | (with_reducible refine all_isWC ?_; intro sx Ax kx cx hvx hwx) | (with_reducible refine all_isNR ?_; intro Ax kx cx hvx) | (with_reducible refine all_isNV ?_; intro Ax kx cx hvx) | (with_reducible refine all_isDV ?_; intro sx Ax kx cx hvx) | (with_reducible refine all_isWV ?_; intro sx Ax kx cx hvx) | (with_reducible refine all_isD ?_; intro sx Ax kx cx hvx hwx) | (with_reducible refine all_isRow ?_; intro gx' hbx) | (with_reducible refine all_isPtr ?_; intro gp' hbp hgp) | (with_reducible refine all_isRow1 ?_; intro gx' sr Ar kr cr hbx hvr))
      go_simp
      have hk := HK.out.step hox
      obtain ⟨c0, c1', c2, f0, f1, f2⟩ := hk.c3 0 rfl
      replace hk := Lib.hid hk
      clear hox
      go_wp2_with fail
      refine bodyPost_ret (v := .agg #[.bool sx, .slice Ax kx cx, .int .i64 (e + (l : Int))]) (by simp [results, Tryd.results64, go_sem, c0, c1', c2]) rfl ?_
      exact dfin (x := ⟨sg s (z.natAbs / 2 ^ l), e + (l : Int)⟩) (by assumption) (by assumption) (by omega) (hk.out.blk 0 rfl) (noLimb3 _ _ _ _ _) hk.out.only (only_set3 _ _ _ _ _)
    case hl =>
      repeat (refine List.forall_mem_cons.2 ⟨?_, ?_⟩; first | exact isV.lasts _ | exact isD.lasts _ | exact isNV.lasts _ | exact isDV.lasts _ | exact isWV.lasts _ | exact isWC.lasts _ | exact isNR.lasts _ _ | exact isWR.lasts _ _ | exact isRow.lasts _ _ _ | exact isPtr.lasts _ _ _ | exact isRow1.lasts _)
      exact fun _ h => (by cases h)

theorem DV.of {w : World} {s : Bool} {A : Option Addr} {k c : Nat} {x : Dy} (h : Hid (IV w (.agg #[.bool s, .slice A k c]) x.z)) : Hid (DV w (.agg #[.bool s, .slice A k c, .int .i64 x.e]) x) := ⟨s, A, k, c, rfl, h.out⟩
theorem DV.form {w : World} {v : Value} {x : Dy} (h : DV w v x) : ∃ s A k c, v = .agg #[.bool s, .slice A k c, .int .i64 x.e] ∧ IV w (.agg #[.bool s, .slice A k c]) x.z := h
theorem lim_i64 {N : Nat} {x : Dy} (h : Bnd N x) (hN : N ≤ 8000000) : -8000000 ≤ x.e ∧ x.e ≤ 8000000 := by have := h.lo; have := h.hi; omega
set_option maxHeartbeats 800000 in
theorem of_d (v : Int) (w : World) (hv : Hid (-9223372036854775808 ≤ v ∧ v ≤ 9223372036854775807)) (hT : Hid (Tab6 w)) : Calls Tryd.prog 65 #[.int .i64 v] w (DPost (nrm v 0) w) := by
  have hk := (KB.start w).new 80 [.bool false, .slice none 0 0, .int .i64 0]
  have HT := Lib.hid (hT.out.keep hk.only)
  have HK := Lib.hid hk
  have HB : Hid (bitsN v.natAbs ≤ 16777216) := by
    have h2 : v.natAbs < 2 ^ 64 := by have := hv.out; omega
    show _ ≤ _
    exact Nat.le_trans (bitsN_le h2) (by decide)
  clear hk hT
  go_enter Tryd.func65, Tryd.ntmps65
  go_wp2_with fail
  (with_reducible refine (of_w v _ hv).mono ?_)
  rintro e1 w2 ⟨s1, A1, k1, c1, rfl, -, -, hv1, ho⟩
  replace HK := Lib.hid (HK.out.step ho)
  replace HT := Lib.hid (HT.out.keep ho)
  replace hv1 := Lib.hid hv1
  clear ho
  go_wp2_with fail
  (with_reducible refine (make_d hv1 HB (by omega) (by omega) HT).mono ?_)
  rintro e2 w3 ⟨s2, A2, k2, c2', rfl, hs2, hk2, hv2, ho⟩
  replace HK := Lib.hid (HK.out.step ho)
  have HC : Hid (Cn s2 k2 (nrm v 0).z) := ⟨hs2, hk2⟩
  have HV := Lib.hid hv2
  obtain ⟨c0, c1', c2, f0, f1, f2⟩ := HK.out.c3 0 rfl
  clear ho hs2 hk2 hv2
  generalize nrm v 0 = x at *
  go_wp2_with fail
  refine bodyPost_ret (v := .agg #[.bool s2, .slice A2 k2 c2', .int .i64 (x.e)]) (by simp [results, Tryd.results65, go_sem, c0, c1', c2]) rfl ?_
  exact dfin HC HV (by omega) (HK.out.blk 0 rfl) (noLimb3 _ _ _ _ _) HK.out.only (only_set3 _ _ _ _ _)
set_option maxHeartbeats 800000 in
theorem sign_d {w : World} {a : Value} {x : Dy} (ha : Hid (DV w a x)) : Calls Tryd.prog 66 #[a] w fun e w' => e = .returned (.int .i64 x.z.sign) ∧ Only [] w w' := by
  obtain ⟨s, A, k, c, rfl, hv⟩ := ha.out.form
  have hk := (KB.start w).new 80 [.bool s, .slice A k c, .int .i64 x.e]
  have HX := Lib.hid (hv.only hk.only)
  have HK := Lib.hid hk
  clear hk hv ha
  go_enter Tryd.func66, Tryd.ntmps66
  go_wp2_with fail
  (with_reducible refine (sign_w HX).mono ?_)
  rintro e1 w2 ⟨rfl, ho⟩
  have HO := Lib.hid (HK.out.step ho).only
  clear ho
  go_wp2_with fail
  go_ret
  exact ⟨rfl, HO.out⟩

end Go.Proofs.YtcknigodcjjahaaDoor
