/-
  Joined texts.
-/
import Derived.Test.YtigpnopeacicpaaGreatDoorTrDyE
import Derived.Test.YtigpnopeacicpaaGreatDoorTrGDyP
import Derived.Test.YtigpnopeacicpaaGreatDoorTrJ8
/-
  Dyads: sums and differences.
-/
namespace Go.Proofs.YtigpnopeacicpaaGreatDoor
set_option linter.unusedSimpArgs false
open Go.RowKit

end Go.Proofs.YtigpnopeacicpaaGreatDoor
/-
  Dyads: widths.
-/
namespace Go.Proofs.YtigpnopeacicpaaGreatDoor
set_option linter.unusedSimpArgs false
open Go.RowKit

theorem KB.set3 {w0 w : World} {L : List EB} (h : KB w0 w L) (i : Nat) {g : Nat} {t : TypeId} {a b c u v x : Value} (hi : L[i]? = some ⟨g, t, [a, b, c]⟩) (hne : ∀ (j : Nat) (y : EB), L[j]? = some y → j ≠ i → y.g ≠ g) (hg : w0.heap.size ≤ g) :
    KB w0 (((w.setCell ⟨g, 0, none⟩ u).setCell ⟨g, 1, none⟩ v).setCell ⟨g, 2, none⟩ x) (L.set i ⟨g, t, [u, v, x]⟩) :=
  ⟨h.only.trans (only_set3 w g u v x) (fun k hk => .inr (by simp at hk; omega)), fun j y hj => by
    by_cases hij : i = j
    · subst hij
      rw [List.getElem?_set_self (by have := List.getElem?_eq_some_iff.1 hi; exact this.1)] at hj
      obtain rfl := (Option.some.inj hj).symm
      exact (((h.all i _ hi).set_ 0 u).set_ 1 v).set_ 2 x
    · rw [List.getElem?_set_ne hij] at hj
      exact (h.all j y hj).only (only_set3 w g u v x) (by simp; exact hne j y hj (Ne.symm hij))⟩
set_option maxHeartbeats 800000 in
theorem width_any (p : Int) (w : World) : Calls Tryz.prog 82 #[.int .i64 p] w fun e w' => e = .returned (.int .i64 (widthP p : Int)) ∧ w = w' := by
  have h : (widthP p : Int) = max 1 (min p 65536) := by unfold widthP; omega
  rw [h]
  clear h
  go_enter Tryz.func82, Tryz.ntmps82
  go_wp2
  go_ret
  exact ⟨rfl, rfl⟩
set_option maxHeartbeats 800000 in
theorem outward_any (neg : Bool) (dir : Int) (w : World) : Calls Tryz.prog 105 #[.bool neg, .int .i64 dir] w fun e w' => e = .returned (.bool (neg != decide (0 ≤ dir))) ∧ w = w' := by
  by_cases h : 0 ≤ dir
  · have hd : decide (0 ≤ dir) = true := decide_eq_true h
    cases neg
    all_goals
      go_enter Tryz.func105, Tryz.ntmps105
      go_wp2
      go_ret
      exact ⟨by simp [hd, h], rfl⟩
  · have hd : decide (0 ≤ dir) = false := decide_eq_false h
    cases neg
    all_goals
      go_enter Tryz.func105, Tryz.ntmps105
      go_wp2
      go_ret
      exact ⟨by simp [hd, h], rfl⟩

end Go.Proofs.YtigpnopeacicpaaGreatDoor
/-
  Dyads: rounding.
-/
namespace Go.Proofs.YtigpnopeacicpaaGreatDoor
set_option linter.unusedSimpArgs false
open Go.RowKit

set_option maxHeartbeats 1600000 in
set_option maxRecDepth 100000 in
theorem round_d {w : World} {a : Value} {x : Dy} {N : Nat} (p dir : Int) (ha : Hid (DV w a x)) (hx : Hid (Bnd N x)) (hN : N ≤ 1000000) (hT : Hid (Tab6 w)) : Calls Tryz.prog 61 #[a, .int .i64 p, .int .i64 dir] w (DPost (rndD (widthP p) (decide (0 ≤ dir)) x) w) := by
  obtain ⟨s, A, k0, c, rfl, hv⟩ := ha.out.form
  have hk := ((KB.start w).new 32 [.bool s, .slice A k0 c, .int .i64 x.e]).new 32 [.bool false, .slice none 0 0, .int .i64 0]
  simp only [World.size_alloc] at hk
  have HX := Lib.hid (hv.only hk.only)
  have HK := Lib.hid hk
  have HT0 := hT
  have HT := Lib.hid (hT.out.keep hk.only)
  have hxe := lim_i64 hx.out (by omega)
  have HBX : Hid (bitsN x.z.natAbs ≤ 16777216) := bits_few hx.out.z (by omega)
  have hpr := widthP_range p
  have hyb : Bnd (2 * N) (nrm x.z x.e) := hx.out.norm (Nat.le_refl _)
  have hye := lim_i64 hyb (by omega)
  have hyz := bitsN_le hyb.z
  unfold rndD
  obtain ⟨⟨yz, ye⟩, hyd⟩ : ∃ y, nrm x.z x.e = y := ⟨_, rfl⟩
  rw [hyd] at hyb hyz hye ⊢
  have HYD := Lib.hid hyd
  simp only at hyz hye ⊢
  obtain ⟨P, hP⟩ : ∃ P, widthP p = P := ⟨_, rfl⟩
  rw [hP] at hpr ⊢
  have HP := Lib.hid hP
  have hzb : yz.natAbs < 2 ^ (2 * N) := hyb.z
  obtain ⟨b, hb⟩ : ∃ b, bitsN yz.natAbs = b := ⟨_, rfl⟩
  rw [hb] at hyz ⊢
  have HBB := Lib.hid hb
  clear hk hv ha hT hyb hyd hP hb
  by_cases hle : b ≤ P
  · rw [if_pos hle]
    have hle2 : (b : Int) - (P : Int) ≤ 0 := by omega
    clear hzb
    go_enter Tryz.func61, Tryz.ntmps61
    go_wp2_with fail
    (with_reducible refine (make_d HX HBX (by omega) (by omega) HT).mono ?_)
    rintro e2 w2 ⟨s1, A1, k1, c1, rfl, hs1, hk1, hv1, ho⟩
    rw [HYD.out] at hs1 hk1 hv1 ⊢
    have hk2 := HK.out.step ho
    obtain ⟨a0, a1, a2, f0, f1, f2⟩ := hk2.c3 1 rfl
    have hB := hk2.blk 1 rfl
    have hk3 := hk2.set3 1 (u := .bool s1) (v := .slice A1 k1 c1) (x := .int .i64 ye) rfl (fun j y hj hne => by
      rcases j with _ | _ | j
      · obtain rfl := (Option.some.inj hj).symm; show _ + 1 ≠ _; omega
      · omega
      · simp at hj) (Nat.le_refl _)
    have HV := Lib.hid (hv1.farS (only_set3 w2 w.heap.size (.bool s1) (.slice A1 k1 c1) (.int .i64 ye)) (fun g hg => by rw [List.mem_singleton] at hg; subst hg; exact hv1.far_blk hB (noLimb3 _ _ _ _ _)))
    have HC : Hid (Cn s1 k1 yz) := ⟨hs1, hk1⟩
    simp only [List.set_cons_succ, List.set_cons_zero] at hk3
    replace HK := Lib.hid hk3
    clear hs1 hk1 hv1 hk2 hk3 hB ho HX HT
    go_upto_region 2 with fail
    clear a0 a1 a2 f0 f1 f2
    generalize ((w2.setCell _ _).setCell _ _).setCell _ _ = w3 at *
    obtain ⟨a0, a1, a2, -, -, -⟩ := HK.out.c3 1 rfl
    have HM := Lib.hid HV.out.mag
    go_wp2_with fail
    (with_reducible refine (bits_v HM).mono ?_)
    rintro e4 w4 ⟨rfl, rfl⟩
    go_wp2_with fail
    (with_reducible refine (width_any p _).mono ?_)
    rintro e5 w5 ⟨rfl, rfl⟩
    rw [HP.out, HBB.out]
    obtain ⟨c0, c1', c2, f0, f1, f2⟩ := HK.out.c3 0 rfl
    go_wp2_with fail
    refine bodyPost_ret (v := .agg #[.bool s1, .slice A1 k1 c1, .int .i64 (ye)]) (by simp [results, Tryz.results61, go_sem, c0, c1', c2]) rfl ?_
    exact dfin (x := ⟨yz, ye⟩) HC HV (by omega) (HK.out.blk 0 rfl) (noLimb3 _ _ _ _ _) HK.out.only (only_set3 _ _ _ _ _)
  · rw [if_neg hle]
    obtain ⟨k, hk⟩ : ∃ k, b - P = k := ⟨_, rfl⟩
    rw [hk]
    have hkk : (b : Int) - (P : Int) = (k : Int) := by omega
    have hk0 : (0 : Int) < (k : Int) := by omega
    have hk16 : (k : Int) ≤ 16777216 := by omega
    have hsum : IntKind.i64.wrap (ye + (k : Int)) = ye + (k : Int) := wrap_i64 (by omega)
    have hml : yz.natAbs / 2 ^ k + 1 < 2 ^ (2 * N + 1) := by
      have := Nat.div_le_self yz.natAbs (2 ^ k)
      have h2 : 0 < 2 ^ (2 * N) := Nat.pow_pos (by omega)
      rw [Nat.pow_succ]; omega
    have HML := Lib.hid hml
    obtain ⟨S, hS⟩ : ∃ S, decide (yz < 0) = S := ⟨_, rfl⟩
    obtain ⟨u, hu⟩ : ∃ u, decide (0 ≤ dir) = u := ⟨_, rfl⟩
    rw [hS, hu]
    have HS := Lib.hid hS
    have HU := Lib.hid hu
    clear hzb hk hle hml hS hu
    by_cases hA : (S != u) = false
    · rw [if_neg (by rw [hA]; decide), Nat.add_zero]
      have HA := Lib.hid hA
      have HB : Hid (bitsN (sg S (yz.natAbs / 2 ^ k)).natAbs ≤ 16777216) := by show _ ≤ _; rw [sg_abs]; exact bits_few (N := 2 * N + 1) (by have := HML.out; omega) (by omega)
      clear hA
      go_enter Tryz.func61, Tryz.ntmps61
      go_wp2_with fail
      (with_reducible refine (make_d HX HBX (by omega) (by omega) HT).mono ?_)
      rintro e2 w2 ⟨s1, A1, k1, c1, rfl, hs1, hk1, hv1, ho⟩
      rw [HYD.out] at hs1 hk1 hv1 ⊢
      have hk2 := HK.out.step ho
      obtain ⟨a0, a1, a2, f0, f1, f2⟩ := hk2.c3 1 rfl
      have hB := hk2.blk 1 rfl
      have hk3 := hk2.set3 1 (u := .bool s1) (v := .slice A1 k1 c1) (x := .int .i64 ye) rfl (fun j y hj hne => by
        rcases j with _ | _ | j
        · obtain rfl := (Option.some.inj hj).symm; show _ + 1 ≠ _; omega
        · omega
        · simp at hj) (Nat.le_refl _)
      have HV := Lib.hid (hv1.farS (only_set3 w2 w.heap.size (.bool s1) (.slice A1 k1 c1) (.int .i64 ye)) (fun g hg => by rw [List.mem_singleton] at hg; subst hg; exact hv1.far_blk hB (noLimb3 _ _ _ _ _)))
      have HC : Hid (Cn s1 k1 yz) := ⟨hs1, hk1⟩
      simp only [List.set_cons_succ, List.set_cons_zero] at hk3
      replace HK := Lib.hid hk3
      clear hs1 hk1 hv1 hk2 hk3 hB ho HX HT
      go_upto_region 2 with fail
      clear a0 a1 a2 f0 f1 f2
      generalize ((w2.setCell _ _).setCell _ _).setCell _ _ = w3 at *
      obtain ⟨a0, a1, a2, -, -, -⟩ := HK.out.c3 1 rfl
      have HM := Lib.hid HV.out.mag
      go_wp2_with fail
      (with_reducible refine (bits_v HM).mono ?_)
      rintro e4 w4 ⟨rfl, rfl⟩
      go_wp2_with fail
      (with_reducible refine (width_any p _).mono ?_)
      rintro e5 w5 ⟨rfl, rfl⟩
      rw [HP.out, HBB.out]
      obtain rfl : s1 = S := HC.out.1.trans HS.out
      go_wp2_with fail
      (with_reducible refine (right_d k hk16 HM).mono ?_)
      rintro e6 w6 ⟨A6, k6, c6, rfl, -, hv6, ho⟩
      replace HK := Lib.hid (HK.out.step ho)
      have HN := Lib.hid hv6
      clear hv6 ho a0 a1 a2 HM HV
      obtain ⟨a0, a1, a2, -, -, -⟩ := HK.out.c3 1 rfl
      go_wp2_with fail
      (with_reducible refine (outward_any s1 dir _).mono ?_)
      rintro e7 w7 ⟨rfl, rfl⟩
      rw [HU.out, HA.out]
      clear a0 a1 a2
      have HM := HN
      go_upto_region 8 with fail
      apply wp_region_typed_tail2 10 (by kernel_rfl) [isV _, isV _, isV _, isV _, isWC (sg s1 (yz.natAbs / 2 ^ k)), isV _, isV _, isV _, isV _, isD (nrm (sg s1 (yz.natAbs / 2 ^ k)) (ye + (k : Int)))] [[], [0], [1], [], [2, 3], [], [5], [], [6, 7], [4, 8]] (by kernel_rfl) (by kernel_rfl) (by kernel_rfl)
      case ho =>
        simp only [List.take_succ_cons, List.take_zero]
        iterate 2
          refine owes2_cons (fun wx hox => ?_) ?_
          · skip
            refine withs_plain rfl ?_
            simp only [withs, List.getElem?_cons_zero, List.getElem?_cons_succ, Option.bind, Option.getD]
            repeat (first | (with_reducible refine all_isV ?_) | (with_reducible refine all_isWC ?_; intro sx Ax kx cx hvx hwx) | (with_reducible refine all_isD ?_; intro sx Ax kx cx hvx hwx))
            go_simp
            exact ⟨Only.refl _ _, isV.self _ _⟩
        refine owes2_cons (fun wx hox => ?_) ?_
        · skip
          have hk := HK.out.step hox
          obtain ⟨a0, a1, a2, -, -, -⟩ := hk.c3 1 rfl
          have hmx := Lib.hid (HM.out.only hox)
          have htx := Lib.hid (HT0.out.keep hk.only)
          clear hk
          refine withs_plain rfl ?_
          simp only [withs, List.getElem?_cons_zero, List.getElem?_cons_succ, Option.bind, Option.getD]
          repeat (first | (with_reducible refine all_isV ?_) | (with_reducible refine all_isWC ?_; intro sx Ax kx cx hvx hwx) | (with_reducible refine all_isD ?_; intro sx Ax kx cx hvx hwx))
          go_simp
          exact ⟨Only.refl _ _, isV.self _ _⟩
        refine owes2_cons (fun wx hox => ?_) ?_
        · skip
          refine withs_plain rfl ?_
          simp only [withs, List.getElem?_cons_zero, List.getElem?_cons_succ, Option.bind, Option.getD]
          repeat (first | (with_reducible refine all_isV ?_) | (with_reducible refine all_isWC ?_; intro sx Ax kx cx hvx hwx) | (with_reducible refine all_isD ?_; intro sx Ax kx cx hvx hwx))
          go_simp
          exact ⟨Only.refl _ _, isV.self _ _⟩
        refine owes2_cons (fun wx hox => ?_) ?_
        · skip
          have hk := HK.out.step hox
          obtain ⟨a0, a1, a2, -, -, -⟩ := hk.c3 1 rfl
          have hmx := Lib.hid (HM.out.only hox)
          have htx := Lib.hid (HT0.out.keep hk.only)
          clear hk
          refine withs_plain rfl ?_
          simp only [withs, List.getElem?_cons_zero, List.getElem?_cons_succ, Option.bind, Option.getD]
          repeat (first | (with_reducible refine all_isV ?_) | (with_reducible refine all_isWC ?_; intro sx Ax kx cx hvx hwx) | (with_reducible refine all_isD ?_; intro sx Ax kx cx hvx hwx))
          go_simp
          (with_reducible exact grow_wc (make_w s1 hmx))
        refine owes2_cons (fun wx hox => ?_) ?_
        · skip
          refine withs_plain rfl ?_
          simp only [withs, List.getElem?_cons_zero, List.getElem?_cons_succ, Option.bind, Option.getD]
          repeat (first | (with_reducible refine all_isV ?_) | (with_reducible refine all_isWC ?_; intro sx Ax kx cx hvx hwx) | (with_reducible refine all_isD ?_; intro sx Ax kx cx hvx hwx))
          go_simp
          exact ⟨Only.refl _ _, isV.self _ _⟩
        refine owes2_cons (fun wx hox => ?_) ?_
        · skip
          have hk := HK.out.step hox
          obtain ⟨a0, a1, a2, -, -, -⟩ := hk.c3 1 rfl
          have hmx := Lib.hid (HM.out.only hox)
          have htx := Lib.hid (HT0.out.keep hk.only)
          clear hk
          refine withs_plain rfl ?_
          simp only [withs, List.getElem?_cons_zero, List.getElem?_cons_succ, Option.bind, Option.getD]
          repeat (first | (with_reducible refine all_isV ?_) | (with_reducible refine all_isWC ?_; intro sx Ax kx cx hvx hwx) | (with_reducible refine all_isD ?_; intro sx Ax kx cx hvx hwx))
          go_simp
          exact ⟨Only.refl _ _, isV.self _ _⟩
        iterate 2
          refine owes2_cons (fun wx hox => ?_) ?_
          · skip
            refine withs_plain rfl ?_
            simp only [withs, List.getElem?_cons_zero, List.getElem?_cons_succ, Option.bind, Option.getD]
            repeat (first | (with_reducible refine all_isV ?_) | (with_reducible refine all_isWC ?_; intro sx Ax kx cx hvx hwx) | (with_reducible refine all_isD ?_; intro sx Ax kx cx hvx hwx))
            go_simp
            exact ⟨Only.refl _ _, isV.self _ _⟩
        refine owes2_cons (fun wx hox => ?_) ?_
        · skip
          have hk := HK.out.step hox
          obtain ⟨a0, a1, a2, -, -, -⟩ := hk.c3 1 rfl
          have hmx := Lib.hid (HM.out.only hox)
          have htx := Lib.hid (HT0.out.keep hk.only)
          clear hk
          refine withs_plain rfl ?_
          simp only [withs, List.getElem?_cons_zero, List.getElem?_cons_succ, Option.bind, Option.getD]
          repeat (first | (with_reducible refine all_isV ?_) | (with_reducible refine all_isWC ?_; intro sx Ax kx cx hvx hwx) | (with_reducible refine all_isD ?_; intro sx Ax kx cx hvx hwx))
          go_simp
          (with_reducible exact grow_d (make_d (by assumption) HB (by omega) (by omega) htx))
        exact owes2_nil
      case he =>
        simp only [List.drop_succ_cons, List.drop_zero]
        intro wx hox
        refine withs_of (by simp only [List.length, List.range, List.range.loop]; exact rfl) ?_
        simp only [withs, List.getElem?_cons_zero, List.getElem?_cons_succ, Option.bind, Option.getD]
        repeat (first | (with_reducible refine all_isV ?_) | (with_reducible refine all_isWC ?_; intro sx Ax kx cx hvx hwx) | (with_reducible refine all_isD ?_; intro sx Ax kx cx hvx hwx))
        go_simp
        have hk := HK.out.step hox
        obtain ⟨c0, c1', c2, f0, f1, f2⟩ := hk.c3 0 rfl
        replace hk := Lib.hid hk
        clear hox
        go_wp2_with fail
        refine bodyPost_ret (v := .agg #[.bool sx, .slice Ax kx cx, .int .i64 ((nrm (sg s1 (yz.natAbs / 2 ^ k)) (ye + (k : Int))).e)]) (by simp [results, Tryz.results61, go_sem, c0, c1', c2]) rfl ?_
        exact dfin (x := nrm (sg s1 (yz.natAbs / 2 ^ k)) (ye + (k : Int))) (by assumption) (by assumption) (by omega) (hk.out.blk 0 rfl) (noLimb3 _ _ _ _ _) hk.out.only (only_set3 _ _ _ _ _)
      case hl =>
        repeat (refine List.forall_mem_cons.2 ⟨?_, ?_⟩; first | exact isV.lasts _ | exact isD.lasts _ | exact isWC.lasts _)
        exact fun _ h => (by cases h)
    · replace hA : (S != u) = true := by simpa using hA
      rw [if_pos hA]
      have HA := Lib.hid hA
      have HB : Hid (bitsN (sg S (yz.natAbs / 2 ^ k + 1)).natAbs ≤ 16777216) := by show _ ≤ _; rw [sg_abs]; exact bits_few (N := 2 * N + 1) HML.out (by omega)
      have HF : Hid (Few (yz.natAbs / 2 ^ k + 1)) := few_two_pow HML.out (by omega)
      clear hA
      go_enter Tryz.func61, Tryz.ntmps61
      go_wp2_with fail
      (with_reducible refine (make_d HX HBX (by omega) (by omega) HT).mono ?_)
      rintro e2 w2 ⟨s1, A1, k1, c1, rfl, hs1, hk1, hv1, ho⟩
      rw [HYD.out] at hs1 hk1 hv1 ⊢
      have hk2 := HK.out.step ho
      obtain ⟨a0, a1, a2, f0, f1, f2⟩ := hk2.c3 1 rfl
      have hB := hk2.blk 1 rfl
      have hk3 := hk2.set3 1 (u := .bool s1) (v := .slice A1 k1 c1) (x := .int .i64 ye) rfl (fun j y hj hne => by
        rcases j with _ | _ | j
        · obtain rfl := (Option.some.inj hj).symm; show _ + 1 ≠ _; omega
        · omega
        · simp at hj) (Nat.le_refl _)
      have HV := Lib.hid (hv1.farS (only_set3 w2 w.heap.size (.bool s1) (.slice A1 k1 c1) (.int .i64 ye)) (fun g hg => by rw [List.mem_singleton] at hg; subst hg; exact hv1.far_blk hB (noLimb3 _ _ _ _ _)))
      have HC : Hid (Cn s1 k1 yz) := ⟨hs1, hk1⟩
      simp only [List.set_cons_succ, List.set_cons_zero] at hk3
      replace HK := Lib.hid hk3
      clear hs1 hk1 hv1 hk2 hk3 hB ho HX HT
      go_upto_region 2 with fail
      clear a0 a1 a2 f0 f1 f2
      generalize ((w2.setCell _ _).setCell _ _).setCell _ _ = w3 at *
      obtain ⟨a0, a1, a2, -, -, -⟩ := HK.out.c3 1 rfl
      have HM := Lib.hid HV.out.mag
      go_wp2_with fail
      (with_reducible refine (bits_v HM).mono ?_)
      rintro e4 w4 ⟨rfl, rfl⟩
      go_wp2_with fail
      (with_reducible refine (width_any p _).mono ?_)
      rintro e5 w5 ⟨rfl, rfl⟩
      rw [HP.out, HBB.out]
      obtain rfl : s1 = S := HC.out.1.trans HS.out
      go_wp2_with fail
      (with_reducible refine (right_d k hk16 HM).mono ?_)
      rintro e6 w6 ⟨A6, k6, c6, rfl, -, hv6, ho⟩
      replace HK := Lib.hid (HK.out.step ho)
      have HN := Lib.hid hv6
      clear hv6 ho a0 a1 a2 HM HV
      obtain ⟨a0, a1, a2, -, -, -⟩ := HK.out.c3 1 rfl
      go_wp2_with fail
      (with_reducible refine (outward_any s1 dir _).mono ?_)
      rintro e7 w7 ⟨rfl, rfl⟩
      rw [HU.out, HA.out]
      clear a0 a1 a2
      go_wp2_with fail
      have hl := of_lit 1 1 w6 (by show _ < _; rw [BB_val]; omega) rfl
      (with_reducible refine hl.mono ?_)
      clear hl
      rintro e8 w8 ⟨A8, k8, c8, rfl, -, hv8, ho⟩
      replace HK := Lib.hid (HK.out.step ho)
      replace HN := Lib.hid (HN.out.only ho)
      have HO := Lib.hid hv8
      clear hv8 ho
      go_wp2_with fail
      (with_reducible refine (add2_v HN HO HF).mono ?_)
      rintro e9 w9 ⟨A9, k9, c9, rfl, -, hv9, ho⟩
      replace HK := Lib.hid (HK.out.step ho)
      have HM := Lib.hid hv9
      clear hv9 ho HN HO
      go_upto_region 8 with fail
      apply wp_region_typed_tail2 10 (by kernel_rfl) [isV _, isV _, isV _, isV _, isWC (sg s1 (yz.natAbs / 2 ^ k + 1)), isV _, isV _, isV _, isV _, isD (nrm (sg s1 (yz.natAbs / 2 ^ k + 1)) (ye + (k : Int)))] [[], [0], [1], [], [2, 3], [], [5], [], [6, 7], [4, 8]] (by kernel_rfl) (by kernel_rfl) (by kernel_rfl)
      case ho =>
        simp only [List.take_succ_cons, List.take_zero]
        iterate 2
          refine owes2_cons (fun wx hox => ?_) ?_
          · skip
            refine withs_plain rfl ?_
            simp only [withs, List.getElem?_cons_zero, List.getElem?_cons_succ, Option.bind, Option.getD]
            repeat (first | (with_reducible refine all_isV ?_) | (with_reducible refine all_isWC ?_; intro sx Ax kx cx hvx hwx) | (with_reducible refine all_isD ?_; intro sx Ax kx cx hvx hwx))
            go_simp
            exact ⟨Only.refl _ _, isV.self _ _⟩
        refine owes2_cons (fun wx hox => ?_) ?_
        · skip
          have hk := HK.out.step hox
          obtain ⟨a0, a1, a2, -, -, -⟩ := hk.c3 1 rfl
          have hmx := Lib.hid (HM.out.only hox)
          have htx := Lib.hid (HT0.out.keep hk.only)
          clear hk
          refine withs_plain rfl ?_
          simp only [withs, List.getElem?_cons_zero, List.getElem?_cons_succ, Option.bind, Option.getD]
          repeat (first | (with_reducible refine all_isV ?_) | (with_reducible refine all_isWC ?_; intro sx Ax kx cx hvx hwx) | (with_reducible refine all_isD ?_; intro sx Ax kx cx hvx hwx))
          go_simp
          exact ⟨Only.refl _ _, isV.self _ _⟩
        refine owes2_cons (fun wx hox => ?_) ?_
        · skip
          refine withs_plain rfl ?_
          simp only [withs, List.getElem?_cons_zero, List.getElem?_cons_succ, Option.bind, Option.getD]
          repeat (first | (with_reducible refine all_isV ?_) | (with_reducible refine all_isWC ?_; intro sx Ax kx cx hvx hwx) | (with_reducible refine all_isD ?_; intro sx Ax kx cx hvx hwx))
          go_simp
          exact ⟨Only.refl _ _, isV.self _ _⟩
        refine owes2_cons (fun wx hox => ?_) ?_
        · skip
          have hk := HK.out.step hox
          obtain ⟨a0, a1, a2, -, -, -⟩ := hk.c3 1 rfl
          have hmx := Lib.hid (HM.out.only hox)
          have htx := Lib.hid (HT0.out.keep hk.only)
          clear hk
          refine withs_plain rfl ?_
          simp only [withs, List.getElem?_cons_zero, List.getElem?_cons_succ, Option.bind, Option.getD]
          repeat (first | (with_reducible refine all_isV ?_) | (with_reducible refine all_isWC ?_; intro sx Ax kx cx hvx hwx) | (with_reducible refine all_isD ?_; intro sx Ax kx cx hvx hwx))
          go_simp
          (with_reducible exact grow_wc (make_w s1 hmx))
        refine owes2_cons (fun wx hox => ?_) ?_
        · skip
          refine withs_plain rfl ?_
          simp only [withs, List.getElem?_cons_zero, List.getElem?_cons_succ, Option.bind, Option.getD]
          repeat (first | (with_reducible refine all_isV ?_) | (with_reducible refine all_isWC ?_; intro sx Ax kx cx hvx hwx) | (with_reducible refine all_isD ?_; intro sx Ax kx cx hvx hwx))
          go_simp
          exact ⟨Only.refl _ _, isV.self _ _⟩
        refine owes2_cons (fun wx hox => ?_) ?_
        · skip
          have hk := HK.out.step hox
          obtain ⟨a0, a1, a2, -, -, -⟩ := hk.c3 1 rfl
          have hmx := Lib.hid (HM.out.only hox)
          have htx := Lib.hid (HT0.out.keep hk.only)
          clear hk
          refine withs_plain rfl ?_
          simp only [withs, List.getElem?_cons_zero, List.getElem?_cons_succ, Option.bind, Option.getD]
          repeat (first | (with_reducible refine all_isV ?_) | (with_reducible refine all_isWC ?_; intro sx Ax kx cx hvx hwx) | (with_reducible refine all_isD ?_; intro sx Ax kx cx hvx hwx))
          go_simp
          exact ⟨Only.refl _ _, isV.self _ _⟩
        iterate 2
          refine owes2_cons (fun wx hox => ?_) ?_
          · skip
            refine withs_plain rfl ?_
            simp only [withs, List.getElem?_cons_zero, List.getElem?_cons_succ, Option.bind, Option.getD]
            repeat (first | (with_reducible refine all_isV ?_) | (with_reducible refine all_isWC ?_; intro sx Ax kx cx hvx hwx) | (with_reducible refine all_isD ?_; intro sx Ax kx cx hvx hwx))
            go_simp
            exact ⟨Only.refl _ _, isV.self _ _⟩
        refine owes2_cons (fun wx hox => ?_) ?_
        · skip
          have hk := HK.out.step hox
          obtain ⟨a0, a1, a2, -, -, -⟩ := hk.c3 1 rfl
          have hmx := Lib.hid (HM.out.only hox)
          have htx := Lib.hid (HT0.out.keep hk.only)
          clear hk
          refine withs_plain rfl ?_
          simp only [withs, List.getElem?_cons_zero, List.getElem?_cons_succ, Option.bind, Option.getD]
          repeat (first | (with_reducible refine all_isV ?_) | (with_reducible refine all_isWC ?_; intro sx Ax kx cx hvx hwx) | (with_reducible refine all_isD ?_; intro sx Ax kx cx hvx hwx))
          go_simp
          (with_reducible exact grow_d (make_d (by assumption) HB (by omega) (by omega) htx))
        exact owes2_nil
      case he =>
        simp only [List.drop_succ_cons, List.drop_zero]
        intro wx hox
        refine withs_of (by simp only [List.length, List.range, List.range.loop]; exact rfl) ?_
        simp only [withs, List.getElem?_cons_zero, List.getElem?_cons_succ, Option.bind, Option.getD]
        repeat (first | (with_reducible refine all_isV ?_) | (with_reducible refine all_isWC ?_; intro sx Ax kx cx hvx hwx) | (with_reducible refine all_isD ?_; intro sx Ax kx cx hvx hwx))
        go_simp
        have hk := HK.out.step hox
        obtain ⟨c0, c1', c2, f0, f1, f2⟩ := hk.c3 0 rfl
        replace hk := Lib.hid hk
        clear hox
        go_wp2_with fail
        refine bodyPost_ret (v := .agg #[.bool sx, .slice Ax kx cx, .int .i64 ((nrm (sg s1 (yz.natAbs / 2 ^ k + 1)) (ye + (k : Int))).e)]) (by simp [results, Tryz.results61, go_sem, c0, c1', c2]) rfl ?_
        exact dfin (x := nrm (sg s1 (yz.natAbs / 2 ^ k + 1)) (ye + (k : Int))) (by assumption) (by assumption) (by omega) (hk.out.blk 0 rfl) (noLimb3 _ _ _ _ _) hk.out.only (only_set3 _ _ _ _ _)
      case hl =>
        repeat (refine List.forall_mem_cons.2 ⟨?_, ?_⟩; first | exact isV.lasts _ | exact isD.lasts _ | exact isWC.lasts _)
        exact fun _ h => (by cases h)

end Go.Proofs.YtigpnopeacicpaaGreatDoor
/-
  Dyads: between.
-/
namespace Go.Proofs.YtigpnopeacicpaaGreatDoor
set_option linter.unusedSimpArgs false
open Go.RowKit
set_option maxHeartbeats 1600000 in
set_option maxRecDepth 100000 in
theorem bet_d {w : World} {a : Value} {q K L : Nat} (neg more : Bool) (E p dir : Int) (ha : Hid (NV w a q)) (hq : Hid (q < 2 ^ K)) (h1 : -(L : Int) ≤ E) (h2 : E ≤ (L : Int)) (hKL : K + L + 2 ≤ 1000000) (hT : Hid (Tab6 w)) :
    Calls Tryz.prog 88 #[.bool neg, a, .int .i64 E, .bool more, .int .i64 p, .int .i64 dir] w (DPost (betD (widthP p) (decide (0 ≤ dir)) neg q E more) w) := by
  unfold betD
  have hk := (KB.start w).new 32 [.bool false, .slice none 0 0, .int .i64 0]
  have HK := Lib.hid hk
  have HM := Lib.hid (ha.out.only hk.only)
  have hL : (L : Int) ≤ 1000000 := by omega
  obtain ⟨A, k, c, rfl⟩ : ∃ A k c, a = .slice A k c := by
    obtain ⟨A, c, xs, h, -⟩ := ha.out
    exact ⟨A, _, c, h⟩
  cases more
  · simp only [Bool.false_eq_true, if_false]
    have hz : (sg neg q).natAbs < 2 ^ K := by rw [sg_abs]; exact hq.out
    have HB : Hid (bitsN (sg neg q).natAbs ≤ 16777216) := bits_few hz (by omega)
    have HBN : Hid (Bnd (K + L + 2) (nrm (sg neg q) E)) := bnd_nrm hz h1 h2 (by omega)
    clear hk ha hz
    go_enter Tryz.func88, Tryz.ntmps88
    go_wp2_with fail
    (with_reducible refine (make_w neg HM).mono ?_)
    rintro e5 w5 ⟨s5, A5, k5, c5, rfl, -, -, hv5, ho⟩
    replace HK := Lib.hid (HK.out.step ho)
    have HV5 := Lib.hid hv5
    have HT5 := Lib.hid (hT.out.keep HK.out.only)
    clear hv5 ho HM
    go_wp2_with fail
    (with_reducible refine (make_d HV5 HB (by omega) (by omega) HT5).mono ?_)
    rintro e6 w6 ⟨s6, A6, k6, c6, rfl, -, -, hv6, ho⟩
    replace HK := Lib.hid (HK.out.step ho)
    have HV6 := Lib.hid hv6
    have HT6 := Lib.hid (hT.out.keep HK.out.only)
    clear hv6 ho HV5 HT5
    go_wp2_with fail
    (with_reducible refine (round_d p dir (DV.of HV6) HBN (by omega) HT6).mono ?_)
    rintro e7 w7 ⟨s7, A7, k7, c7, rfl, hs7, hk7, hv7, ho⟩
    replace HK := Lib.hid (HK.out.step ho)
    have HC : Hid (Cn s7 k7 (rndD (widthP p) (decide (0 ≤ dir)) (nrm (sg neg (q)) (E))).z) := ⟨hs7, hk7⟩
    have HV := Lib.hid hv7
    obtain ⟨c0, c1', c2, f0, f1, f2⟩ := HK.out.c3 0 rfl
    clear hv7 hs7 hk7 ho HV6 HT6
    generalize rndD (widthP p) (decide (0 ≤ dir)) (nrm (sg neg (q)) (E)) = r at *
    go_wp2_with fail
    refine bodyPost_ret (v := .agg #[.bool s7, .slice A7 k7 c7, .int .i64 (r.e)]) (by simp [results, Tryz.results88, go_sem, c0, c1', c2]) rfl ?_
    exact dfin HC HV (by omega) (HK.out.blk 0 rfl) (noLimb3 _ _ _ _ _) HK.out.only (only_set3 _ _ _ _ _)
  · simp only [if_true]
    have hz : (sg neg (q * 2 + 1)).natAbs < 2 ^ (K + 1) := by rw [sg_abs]; have := hq.out; rw [Nat.pow_succ]; omega
    have HB : Hid (bitsN (sg neg (q * 2 + 1)).natAbs ≤ 16777216) := bits_few hz (by omega)
    have HBN : Hid (Bnd (K + L + 2) (nrm (sg neg (q * 2 + 1)) (E - 1))) := bnd_nrm (M := L + 1) hz (by omega) (by omega) (by omega)
    have HF1 : Hid (Few (q * 2 ^ 1)) := few_two_pow (N := K + 1) (by have := hq.out; rw [Nat.pow_succ]; omega) (by omega)
    have HF2 : Hid (Few (q * 2 ^ 1 + 1)) := few_two_pow (N := K + 1) (by have := hq.out; rw [Nat.pow_succ]; omega) (by omega)
    clear hk ha hz
    go_enter Tryz.func88, Tryz.ntmps88
    go_wp2_with fail
    have hl : Calls Tryz.prog 84 #[.slice A k c, .int .i64 1] (w.alloc (.cells #[.bool false, .slice none 0 0, .int .i64 0] 32)) _ := left_d (w := w.alloc (.cells #[.bool false, .slice none 0 0, .int .i64 0] 32)) 1 (by omega) HM HF1
    (with_reducible refine hl.mono ?_)
    clear hl
    rintro e2 w2 ⟨A2, k2, c2, rfl, -, hv2, ho⟩
    replace HK := Lib.hid (HK.out.step ho)
    have HN := Lib.hid hv2
    clear hv2 ho HM
    go_wp2_with fail
    have hl := of_lit 1 1 w2 (by show _ < _; rw [BB_val]; omega) rfl
    (with_reducible refine hl.mono ?_)
    clear hl
    rintro e3 w3 ⟨A3, k3, c3, rfl, -, hv3, ho⟩
    replace HK := Lib.hid (HK.out.step ho)
    replace HN := Lib.hid (HN.out.only ho)
    have HO := Lib.hid hv3
    clear hv3 ho
    go_wp2_with fail
    (with_reducible refine (add2_v HN HO HF2).mono ?_)
    rintro e4 w4 ⟨A4, k4, c4, rfl, -, hv4, ho⟩
    rw [Nat.pow_one] at hv4
    replace HK := Lib.hid (HK.out.step ho)
    have HM := Lib.hid hv4
    clear hv4 ho HN HO HF1 HF2
    go_wp2_with fail
    (with_reducible refine (make_w neg HM).mono ?_)
    rintro e5 w5 ⟨s5, A5, k5, c5, rfl, -, -, hv5, ho⟩
    replace HK := Lib.hid (HK.out.step ho)
    have HV5 := Lib.hid hv5
    have HT5 := Lib.hid (hT.out.keep HK.out.only)
    clear hv5 ho HM
    go_wp2_with fail
    (with_reducible refine (make_d HV5 HB (by omega) (by omega) HT5).mono ?_)
    rintro e6 w6 ⟨s6, A6, k6, c6, rfl, -, -, hv6, ho⟩
    replace HK := Lib.hid (HK.out.step ho)
    have HV6 := Lib.hid hv6
    have HT6 := Lib.hid (hT.out.keep HK.out.only)
    clear hv6 ho HV5 HT5
    go_wp2_with fail
    (with_reducible refine (round_d p dir (DV.of HV6) HBN (by omega) HT6).mono ?_)
    rintro e7 w7 ⟨s7, A7, k7, c7, rfl, hs7, hk7, hv7, ho⟩
    replace HK := Lib.hid (HK.out.step ho)
    have HC : Hid (Cn s7 k7 (rndD (widthP p) (decide (0 ≤ dir)) (nrm (sg neg (q * 2 + 1)) (E - 1))).z) := ⟨hs7, hk7⟩
    have HV := Lib.hid hv7
    obtain ⟨c0, c1', c2, f0, f1, f2⟩ := HK.out.c3 0 rfl
    clear hv7 hs7 hk7 ho HV6 HT6
    generalize rndD (widthP p) (decide (0 ≤ dir)) (nrm (sg neg (q * 2 + 1)) (E - 1)) = r at *
    go_wp2_with fail
    refine bodyPost_ret (v := .agg #[.bool s7, .slice A7 k7 c7, .int .i64 (r.e)]) (by simp [results, Tryz.results88, go_sem, c0, c1', c2]) rfl ?_
    exact dfin HC HV (by omega) (HK.out.blk 0 rfl) (noLimb3 _ _ _ _ _) HK.out.only (only_set3 _ _ _ _ _)

end Go.Proofs.YtigpnopeacicpaaGreatDoor

/-
  Dyads: quotients.
-/
namespace Go.Proofs.YtigpnopeacicpaaGreatDoor
set_option linter.unusedSimpArgs false
open Go.RowKit

def QDPost (x : Dy) (ok : Bool) (w : World) (e : Ending) (w' : World) : Prop := ∃ s A k c, e = .returned (.tuple #[.agg #[.bool s, .slice A k c, .int .i64 x.e], .bool ok]) ∧ s = decide (x.z < 0) ∧ k = (limbsOf x.z.natAbs).length ∧ IV w' (.agg #[.bool s, .slice A k c]) x.z ∧ Only [] w w'
theorem QDPost.of {x : Dy} {ok : Bool} {w w' : World} {s : Bool} {A : Option Addr} {k c : Nat} (h : DPost x w (.returned (.agg #[.bool s, .slice A k c, .int .i64 x.e])) w') : QDPost x ok w (.returned (.tuple #[.agg #[.bool s, .slice A k c, .int .i64 x.e], .bool ok])) w' := by
  obtain ⟨s', A', k', c', he, h1, h2, h3, h4⟩ := h
  injection he with he
  simp only [Value.agg.injEq, Array.mk.injEq, List.cons.injEq, Value.bool.injEq, Value.slice.injEq, and_true] at he
  obtain ⟨rfl, rfl, rfl, rfl⟩ := he
  exact ⟨s, A, k, c, rfl, h1, h2, h3, h4⟩
theorem pos_bits (r : Nat) : decide (0 < bitsN r) = decide (0 < r) := by
  have := bits_zero_iff (n := r)
  by_cases h : 0 < r
  · rw [decide_eq_true h, decide_eq_true (by omega)]
  · rw [decide_eq_false h, decide_eq_false (by omega)]
end Go.Proofs.YtigpnopeacicpaaGreatDoor

/-
  Dyads in boxes; a first call whose answer is known (compasslaw3.alive).
-/
namespace Go.Proofs.YtigpnopeacicpaaGreatDoor
set_option linter.unusedSimpArgs false
open Go.RowKit

theorem ofV_d (v : Int) (x : Dy) (w : World) (hx : nrm v 0 = x) (hv : Hid (-9223372036854775808 ≤ v ∧ v ≤ 9223372036854775807)) (hT : Hid (Tab6 w)) : Calls Tryz.prog 39 #[.int .i64 v] w (DPost x w) := hx ▸ of_d v w hv hT

/-! ### Boxes of dyads -/

structure DX where
  g : Nat
  s : Bool
  a : Option Addr
  k : Nat
  c : Nat
  x : Dy

def DX.ok (w : World) (b : DX) : Prop := Blk w b.g 32 [.bool b.s, .slice b.a b.k b.c, .int .i64 b.x.e] ∧ IV w (.agg #[.bool b.s, .slice b.a b.k b.c]) b.x.z

structure DB (w0 w : World) (L : List DX) : Prop where
  only : Only [] w0 w
  all : ∀ (i : Nat) (x : DX), L[i]? = some x → DX.ok w x
  base : ∀ (i : Nat) (x : DX), L[i]? = some x → w0.heap.size ≤ x.g
  ne : ∀ (i j : Nat) (x y : DX), i ≠ j → L[i]? = some x → L[j]? = some y → x.g ≠ y.g

theorem DB.start (w : World) : DB w w [] := ⟨Only.refl _ _, fun i x h => by simp at h, fun i x h => by simp at h, fun i j x y _ h => by simp at h⟩

theorem DB.step {w0 w w' : World} {L : List DX} (h : DB w0 w L) (ho : Only [] w w') : DB w0 w' L := ⟨h.only.nil_trans ho, fun i x hx => ⟨(h.all i x hx).1.only ho (by simp), (h.all i x hx).2.only ho⟩, h.base, h.ne⟩

theorem DB.new {w0 w : World} {L : List DX} (h : DB w0 w L) {s : Bool} {A : Option Addr} {k c : Nat} {x : Dy} (hv : IV w (.agg #[.bool s, .slice A k c]) x.z) :
    DB w0 (w.alloc (.cells #[.bool s, .slice A k c, .int .i64 x.e] 32)) (⟨w.heap.size, s, A, k, c, x⟩ :: L) := by
  have ho : Only [] w (w.alloc (.cells #[.bool s, .slice A k c, .int .i64 x.e] 32)) := (Only.refl [] w).alloc _
  have h' := h.step ho
  refine ⟨h'.only, fun i y hy => ?_, fun i y hy => ?_, fun i j y z hij hy hz => ?_⟩
  · rcases i with _ | i
    · obtain rfl := (Option.some.inj hy).symm
      exact ⟨Blk.new w _ _, hv.only ho⟩
    · exact h'.all i y hy
  · rcases i with _ | i
    · obtain rfl := (Option.some.inj hy).symm
      exact h.only.size
    · exact h.base i y hy
  · rcases i with _ | i
    · rcases j with _ | j
      · omega
      · obtain rfl := (Option.some.inj hy).symm
        have := (h.all j z hz).1.lt
        show w.heap.size ≠ z.g
        omega
    · rcases j with _ | j
      · obtain rfl := (Option.some.inj hz).symm
        have := (h.all i y hy).1.lt
        show y.g ≠ w.heap.size
        omega
      · exact h.ne i j y z (by omega) hy hz

theorem DB.cells {w0 w : World} {L : List DX} (h : Hid (DB w0 w L)) (i : Nat) {g : Nat} {s : Bool} {A : Option Addr} {k c : Nat} {x : Dy} (hi : L[i]? = some ⟨g, s, A, k, c, x⟩) :
    w.cell? ⟨g, 0, none⟩ = some (.bool s) ∧ w.cell? ⟨g, 1, none⟩ = some (.slice A k c) ∧ w.cell? ⟨g, 2, none⟩ = some (.int .i64 x.e) ∧ w.frozen? ⟨g, 0, none⟩ = false ∧ w.frozen? ⟨g, 1, none⟩ = false ∧ w.frozen? ⟨g, 2, none⟩ = false :=
  have hb := (h.out.all i _ hi).1
  ⟨hb.cell 0, hb.cell 1, hb.cell 2, hb.frozen 0, hb.frozen 1, hb.frozen 2⟩

theorem DB.iv {w0 w : World} {L : List DX} (h : Hid (DB w0 w L)) (i : Nat) {g : Nat} {s : Bool} {A : Option Addr} {k c : Nat} {x : Dy} (hi : L[i]? = some ⟨g, s, A, k, c, x⟩) : Hid (IV w (.agg #[.bool s, .slice A k c]) x.z) := (h.out.all i _ hi).2

theorem DB.dv {w0 w : World} {L : List DX} (h : Hid (DB w0 w L)) (i : Nat) {g : Nat} {s : Bool} {A : Option Addr} {k c : Nat} {x : Dy} (hi : L[i]? = some ⟨g, s, A, k, c, x⟩) : Hid (DV w (.agg #[.bool s, .slice A k c, .int .i64 x.e]) x) := DV.of (DB.iv h i hi)

theorem DB.put {w0 w : World} {L : List DX} (h : DB w0 w L) (i : Nat) {g : Nat} {s0 s : Bool} {A0 A : Option Addr} {k0 k c0 c : Nat} {x0 x : Dy} (hi : L[i]? = some ⟨g, s0, A0, k0, c0, x0⟩) (hv : IV w (.agg #[.bool s, .slice A k c]) x.z) :
    DB w0 (((w.setCell ⟨g, 0, none⟩ (.bool s)).setCell ⟨g, 1, none⟩ (.slice A k c)).setCell ⟨g, 2, none⟩ (.int .i64 x.e)) (L.set i ⟨g, s, A, k, c, x⟩) := by
  have hb := h.all i _ hi
  have ho := only_set3 w g (.bool s) (.slice A k c) (.int .i64 x.e)
  have hg : w0.heap.size ≤ g := h.base i _ hi
  have hlen : i < L.length := (List.getElem?_eq_some_iff.1 hi).1
  have far : ∀ {r : Bool} {C : Option Addr} {j l : Nat} {z : Int}, IV w (.agg #[.bool r, .slice C j l]) z → IV (((w.setCell ⟨g, 0, none⟩ (.bool s)).setCell ⟨g, 1, none⟩ (.slice A k c)).setCell ⟨g, 2, none⟩ (.int .i64 x.e)) (.agg #[.bool r, .slice C j l]) z := fun hiv =>
    hiv.farS ho (fun g' hg' => by rw [List.mem_singleton] at hg'; subst hg'; exact hiv.far_blk hb.1 (noLimb3 _ _ _ _ _))
  have hne : ∀ (j : Nat) (y : DX), L[j]? = some y → j ≠ i → y.g ≠ g := fun j y hy hj => h.ne j i y _ hj hy hi
  have key : ∀ (j : Nat) (y : DX), (L.set i ⟨g, s, A, k, c, x⟩)[j]? = some y → (j = i ∧ y = ⟨g, s, A, k, c, x⟩) ∨ (j ≠ i ∧ L[j]? = some y) := fun j y hy => by
    by_cases hij : i = j
    · subst hij
      rw [List.getElem?_set_self hlen] at hy
      exact .inl ⟨rfl, (Option.some.inj hy).symm⟩
    · rw [List.getElem?_set_ne hij] at hy
      exact .inr ⟨Ne.symm hij, hy⟩
  have gk : ∀ (j : Nat) (y : DX), (L.set i ⟨g, s, A, k, c, x⟩)[j]? = some y → ∃ y', L[j]? = some y' ∧ y'.g = y.g := fun j y hy => by
    rcases key j y hy with ⟨rfl, rfl⟩ | ⟨_, h2⟩
    · exact ⟨_, hi, rfl⟩
    · exact ⟨_, h2, rfl⟩
  refine ⟨h.only.trans ho (fun k hk => .inr (by simp at hk; omega)), fun j y hy => ?_, fun j y hy => ?_, fun j l y z hjl hy hz => ?_⟩
  · rcases key j y hy with ⟨rfl, rfl⟩ | ⟨h1, h2⟩
    · exact ⟨((hb.1.set_ 0 (.bool s)).set_ 1 (.slice A k c)).set_ 2 (.int .i64 x.e), far hv⟩
    · obtain ⟨h3, h4⟩ := h.all j y h2
      exact ⟨h3.only ho (by simp; exact hne j y h2 h1), far h4⟩
  · obtain ⟨y', h1, h2⟩ := gk j y hy
    have := h.base j y' h1; omega
  · obtain ⟨y', h1, h2⟩ := gk j y hy
    obtain ⟨z', h3, h4⟩ := gk l z hz
    have := h.ne j l y' z' hjl h1 h3; omega

theorem IV.set3 {w : World} {r : Bool} {C : Option Addr} {j l g : Nat} {z : Int} {t : TypeId} {cs : List Value} {x y u : Value} (h : IV w (.agg #[.bool r, .slice C j l]) z) (hb : Blk w g t cs) (hn : NoLimb cs) : IV (((w.setCell ⟨g, 0, none⟩ x).setCell ⟨g, 1, none⟩ y).setCell ⟨g, 2, none⟩ u) (.agg #[.bool r, .slice C j l]) z :=
  h.farS (only_set3 w g x y u) (fun g' hg' => by rw [List.mem_singleton] at hg'; subst hg'; exact h.far_blk hb hn)

theorem Blk.set3 {w : World} {g g' : Nat} {t : TypeId} {cs : List Value} {x y u : Value} (h : Blk w g t cs) (hne : g ≠ g') : Blk (((w.setCell ⟨g', 0, none⟩ x).setCell ⟨g', 1, none⟩ y).setCell ⟨g', 2, none⟩ u) g t cs := h.only (only_set3 w g' x y u) (by simp; exact hne)

/-! ### Small numbers -/

theorem nrm_eval {z e : Int} (k m : Nat) (h : z.natAbs = 2 ^ k * (2 * m + 1)) : nrm z e = ⟨sg (decide (z < 0)) (2 * m + 1), e + (k : Int)⟩ := by
  have h0 : z ≠ 0 := by
    intro hc
    rw [hc] at h
    have h1 : 0 < 2 ^ k := Nat.pow_pos (by omega)
    have h2 := Nat.mul_le_mul_left (2 ^ k) (show 1 ≤ 2 * m + 1 by omega)
    rw [← h] at h2
    have h3 : Int.natAbs 0 = 0 := rfl
    omega
  rw [nrm_nz e h0, h, lowN_is, Nat.mul_div_cancel_left _ (Nat.pow_pos (by omega))]

theorem bnd_s {z e : Int} (h1 : z.natAbs < 16) (h2 : -4 ≤ e) (h3 : e ≤ 4) : Bnd 4 ⟨z, e⟩ := ⟨h1, h2, h3⟩

end Go.Proofs.YtigpnopeacicpaaGreatDoor

/-
  Numbers as they are handed in: Of, Light; short.
-/
namespace Go.Proofs.YtigpnopeacicpaaGreatDoor
set_option linter.unusedSimpArgs false
open Go.RowKit

def isWV (z : Int) : VP := fun u w => ∃ s A k c, u = .agg #[.bool s, .slice A k c] ∧ IV w u z

theorem isWV.lasts (z : Int) : Lasts (isWV z) := fun _ _ _ ⟨s, A, k, c, h1, h4⟩ ho => ⟨s, A, k, c, h1, h4.only ho⟩

theorem all_isWV {z : Int} {w : World} {K : Value → Prop} (h : ∀ s A k c, Hid (IV w (.agg #[.bool s, .slice A k c]) z) → K (.agg #[.bool s, .slice A k c])) : ∀ v, isWV z v w → K v := fun v ⟨s, A, k, c, h1, h4⟩ => by
  subst h1
  exact h s A k c h4

structure NR where
  s : Bool
  a : Option Addr
  n : Nat
  c : Nat
  e : Int

def NR.v (x : NR) : Value := .agg #[.bool x.s, .slice x.a x.n x.c, .int .i64 x.e]

def NR.ok (x : NR) : Bool := decide (x.n ≤ 40) && decide (-3000 ≤ x.e) && decide (x.e ≤ 3000)

end Go.Proofs.YtigpnopeacicpaaGreatDoor
