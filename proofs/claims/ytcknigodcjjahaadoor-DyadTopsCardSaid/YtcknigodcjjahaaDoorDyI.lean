/-
  Dyads: between.
-/
import Derived.Test.YtcknigodcjjahaaDoorDyH
namespace Go.Proofs.YtcknigodcjjahaaDoor
set_option linter.unusedSimpArgs false
open Go.RowKit
set_option maxHeartbeats 1600000 in
set_option maxRecDepth 100000 in
theorem bet_d {w : World} {a : Value} {q K L : Nat} (neg more : Bool) (E p dir : Int) (ha : Hid (NV w a q)) (hq : Hid (q < 2 ^ K)) (h1 : -(L : Int) ≤ E) (h2 : E ≤ (L : Int)) (hKL : K + L + 2 ≤ 1000000) (hT : Hid (Tab6 w)) :
    Calls Tryd.prog 115 #[.bool neg, a, .int .i64 E, .bool more, .int .i64 p, .int .i64 dir] w (DPost (betD (widthP p) (decide (0 ≤ dir)) neg q E more) w) := by
  unfold betD
  have hk := (KB.start w).new 80 [.bool false, .slice none 0 0, .int .i64 0]
  have HK := Lib.hid hk
  have HM := Lib.hid (ha.out.only hk.only)
  have hL : (L : Int) ≤ 1000000 := by omega
  obtain ⟨A, k, c, rfl⟩ : ∃ A k c, a = .slice A k c := by
    obtain ⟨A, c, xs, h, -⟩ := ha.out
    exact ⟨A, _, c, h⟩
  cases more
  · simp only [Bool.false_eq_true, if_false]
    have hz : (sg neg q).natAbs < 2 ^ K := by rw [sg_abs]; exact hq.out
    have HB : Hid (bitsN (sg neg q).natAbs ≤ 16777216) := bits_few hz (by omega)
    have HBN : Hid (Bnd (K + L + 2) (nrm (sg neg q) E)) := bnd_nrm hz h1 h2 (by omega)
    clear hk ha hz
    go_enter Tryd.func115, Tryd.ntmps115
    go_wp2_with fail
    (with_reducible refine (make_w neg HM).mono ?_)
    rintro e5 w5 ⟨s5, A5, k5, c5, rfl, -, -, hv5, ho⟩
    replace HK := Lib.hid (HK.out.step ho)
    have HV5 := Lib.hid hv5
    have HT5 := Lib.hid (hT.out.keep HK.out.only)
    clear hv5 ho HM
    go_wp2_with fail
    (with_reducible refine (make_d HV5 HB (by omega) (by omega) HT5).mono ?_)
    rintro e6 w6 ⟨s6, A6, k6, c6, rfl, -, -, hv6, ho⟩
    replace HK := Lib.hid (HK.out.step ho)
    have HV6 := Lib.hid hv6
    have HT6 := Lib.hid (hT.out.keep HK.out.only)
    clear hv6 ho HV5 HT5
    go_wp2_with fail
    (with_reducible refine (round_d p dir (DV.of HV6) HBN (by omega) HT6).mono ?_)
    rintro e7 w7 ⟨s7, A7, k7, c7, rfl, hs7, hk7, hv7, ho⟩
    replace HK := Lib.hid (HK.out.step ho)
    have HC : Hid (Cn s7 k7 (rndD (widthP p) (decide (0 ≤ dir)) (nrm (sg neg (q)) (E))).z) := ⟨hs7, hk7⟩
    have HV := Lib.hid hv7
    obtain ⟨c0, c1', c2, f0, f1, f2⟩ := HK.out.c3 0 rfl
    clear hv7 hs7 hk7 ho HV6 HT6
    generalize rndD (widthP p) (decide (0 ≤ dir)) (nrm (sg neg (q)) (E)) = r at *
    go_wp2_with fail
    refine bodyPost_ret (v := .agg #[.bool s7, .slice A7 k7 c7, .int .i64 (r.e)]) (by simp [results, Tryd.results115, go_sem, c0, c1', c2]) rfl ?_
    exact dfin HC HV (by omega) (HK.out.blk 0 rfl) (noLimb3 _ _ _ _ _) HK.out.only (only_set3 _ _ _ _ _)
  · simp only [if_true]
    have hz : (sg neg (q * 2 + 1)).natAbs < 2 ^ (K + 1) := by rw [sg_abs]; have := hq.out; rw [Nat.pow_succ]; omega
    have HB : Hid (bitsN (sg neg (q * 2 + 1)).natAbs ≤ 16777216) := bits_few hz (by omega)
    have HBN : Hid (Bnd (K + L + 2) (nrm (sg neg (q * 2 + 1)) (E - 1))) := bnd_nrm (M := L + 1) hz (by omega) (by omega) (by omega)
    have HF1 : Hid (Few (q * 2 ^ 1)) := few_two_pow (N := K + 1) (by have := hq.out; rw [Nat.pow_succ]; omega) (by omega)
    have HF2 : Hid (Few (q * 2 ^ 1 + 1)) := few_two_pow (N := K + 1) (by have := hq.out; rw [Nat.pow_succ]; omega) (by omega)
    clear hk ha hz
    go_enter Tryd.func115, Tryd.ntmps115
    go_wp2_with fail
    have hl : Calls Tryd.prog 114 #[.slice A k c, .int .i64 1] (w.alloc (.cells #[.bool false, .slice none 0 0, .int .i64 0] 80)) _ := left_d (w := w.alloc (.cells #[.bool false, .slice none 0 0, .int .i64 0] 80)) 1 (by omega) HM HF1
    (with_reducible refine hl.mono ?_)
    clear hl
    rintro e2 w2 ⟨A2, k2, c2, rfl, -, hv2, ho⟩
    replace HK := Lib.hid (HK.out.step ho)
    have HN := Lib.hid hv2
    clear hv2 ho HM
    go_wp2_with fail
    have hl := of_lit 1 1 w2 (by show _ < _; rw [BB_val]; omega) rfl
    (with_reducible refine hl.mono ?_)
    clear hl
    rintro e3 w3 ⟨A3, k3, c3, rfl, -, hv3, ho⟩
    replace HK := Lib.hid (HK.out.step ho)
    replace HN := Lib.hid (HN.out.only ho)
    have HO := Lib.hid hv3
    clear hv3 ho
    go_wp2_with fail
    (with_reducible refine (add2_v HN HO HF2).mono ?_)
    rintro e4 w4 ⟨A4, k4, c4, rfl, -, hv4, ho⟩
    rw [Nat.pow_one] at hv4
    replace HK := Lib.hid (HK.out.step ho)
    have HM := Lib.hid hv4
    clear hv4 ho HN HO HF1 HF2
    go_wp2_with fail
    (with_reducible refine (make_w neg HM).mono ?_)
    rintro e5 w5 ⟨s5, A5, k5, c5, rfl, -, -, hv5, ho⟩
    replace HK := Lib.hid (HK.out.step ho)
    have HV5 := Lib.hid hv5
    have HT5 := Lib.hid (hT.out.keep HK.out.only)
    clear hv5 ho HM
    go_wp2_with fail
    (with_reducible refine (make_d HV5 HB (by omega) (by omega) HT5).mono ?_)
    rintro e6 w6 ⟨s6, A6, k6, c6, rfl, -, -, hv6, ho⟩
    replace HK := Lib.hid (HK.out.step ho)
    have HV6 := Lib.hid hv6
    have HT6 := Lib.hid (hT.out.keep HK.out.only)
    clear hv6 ho HV5 HT5
    go_wp2_with fail
    (with_reducible refine (round_d p dir (DV.of HV6) HBN (by omega) HT6).mono ?_)
    rintro e7 w7 ⟨s7, A7, k7, c7, rfl, hs7, hk7, hv7, ho⟩
    replace HK := Lib.hid (HK.out.step ho)
    have HC : Hid (Cn s7 k7 (rndD (widthP p) (decide (0 ≤ dir)) (nrm (sg neg (q * 2 + 1)) (E - 1))).z) := ⟨hs7, hk7⟩
    have HV := Lib.hid hv7
    obtain ⟨c0, c1', c2, f0, f1, f2⟩ := HK.out.c3 0 rfl
    clear hv7 hs7 hk7 ho HV6 HT6
    generalize rndD (widthP p) (decide (0 ≤ dir)) (nrm (sg neg (q * 2 + 1)) (E - 1)) = r at *
    go_wp2_with fail
    refine bodyPost_ret (v := .agg #[.bool s7, .slice A7 k7 c7, .int .i64 (r.e)]) (by simp [results, Tryd.results115, go_sem, c0, c1', c2]) rfl ?_
    exact dfin HC HV (by omega) (HK.out.blk 0 rfl) (noLimb3 _ _ _ _ _) HK.out.only (only_set3 _ _ _ _ _)

end Go.Proofs.YtcknigodcjjahaaDoor
