/-
  Joined texts.
-/
import Derived.Test.YtkibkmdgibemkaaDoorTbZFl
import Derived.Test.YtkibkmdgibemkaaDoorTbZDy
import Derived.Test.YtkibkmdgibemkaaDoorTbGRd
/-
  Package flo by value: Dyad, beyond, within, exact, Float.
-/
namespace Go.Proofs.YtkibkmdgibemkaaDoor
set_option linter.unusedSimpArgs false
open Go.RowKit

namespace Fl

theorem word_parts_bits (s : Bool) {r : Nat} (h : r < 9223372036854775808) : bits .and .u64 ((wordB s r : Nat) : Int) 4503599627370495 = ((r % 4503599627370496 : Nat) : Int) ∧ bits .and .u64 ((wordB s r : Nat) : Int) 9223372036854775808 = (if s then 9223372036854775808 else 0) ∧ bits .and .u64 (((wordB s r : Nat) : Int) / 4503599627370496) 2047 = ((r / 4503599627370496 : Nat) : Int) := by
  have hv := word_lt s h
  refine ⟨?_, ?_, ?_⟩
  · have h1 := bits_and_u64_nat (wordB s r) 4503599627370495 hv (by omega)
    rw [show (4503599627370495 : Int) = ((4503599627370495 : Nat) : Int) from rfl, h1, show (4503599627370495 : Nat) = 2 ^ 52 - 1 by decide, Nat.and_two_pow_sub_one_eq_mod]
    cases s <;> simp only [wordB, Bool.false_eq_true, if_false, if_true] <;> congr 1 <;> omega
  · have h1 := bits_and_u64_nat (wordB s r) 9223372036854775808 hv (by omega)
    rw [show (9223372036854775808 : Int) = ((9223372036854775808 : Nat) : Int) from rfl, h1]
    cases s
    · simp only [wordB, Bool.false_eq_true, if_false]
      have h0 : r &&& 9223372036854775808 = 0 := by
        apply Nat.eq_of_testBit_eq
        intro i
        rw [Nat.testBit_and, show (9223372036854775808 : Nat) = 2 ^ 63 by decide, Nat.testBit_two_pow, Nat.zero_testBit]
        by_cases hi : 63 = i
        · subst hi; rw [Nat.testBit_lt_two_pow (by omega)]; rfl
        · rw [decide_eq_false hi, Bool.and_false]
      rw [h0]
      rfl
    · simp only [wordB, if_true]
      have h0 : (9223372036854775808 + r) &&& 9223372036854775808 = 9223372036854775808 := by
        apply Nat.eq_of_testBit_eq
        intro i
        rw [Nat.testBit_and, show (9223372036854775808 : Nat) = 2 ^ 63 by decide, Nat.testBit_two_pow]
        by_cases hi : 63 = i
        · subst hi; rw [Nat.testBit_two_pow_add_eq, Nat.testBit_lt_two_pow (by omega)]; rfl
        · rw [decide_eq_false hi, Bool.and_false]
      rw [h0]
  · have e1 : (((wordB s r : Nat) : Int) / 4503599627370496) = ((wordB s r / 4503599627370496 : Nat) : Int) := by omega
    have h1 := bits_and_u64_nat (wordB s r / 4503599627370496) 2047 (by omega) (by omega)
    rw [e1, show (2047 : Int) = ((2047 : Nat) : Int) from rfl, h1, show (2047 : Nat) = 2 ^ 11 - 1 by decide, Nat.and_two_pow_sub_one_eq_mod]
    cases s <;> simp only [wordB, Bool.false_eq_true, if_false, if_true] <;> congr 1 <;> omega

theorem or_b52 {m : Nat} (h : m < 4503599627370496) : bits .or .u64 (m : Int) 4503599627370496 = ((4503599627370496 + m : Nat) : Int) := by
  have h1 := bits_or_u64_nat m 4503599627370496 (by omega) (by omega)
  rw [show (4503599627370496 : Int) = ((4503599627370496 : Nat) : Int) from rfl, h1]
  congr 1
  rw [Nat.or_comm, show (4503599627370496 : Nat) = 2 ^ 52 * 1 by decide, ← Nat.two_pow_add_eq_or_of_lt (by omega)]

theorem mant_lt (r : Nat) : mantW r < 9007199254740992 := by unfold mantW; split <;> omega

theorem finN (s : Bool) {r : Nat} (h : r < INF) : finB (wordB s r) = true := by rw [fin_word s (by unfold INF at h; omega)]; simpa using h

theorem finF (s : Bool) {r : Nat} (h : INF ≤ r) (h2 : r < 9223372036854775808) : finB (wordB s r) = false := by rw [fin_word s h2]; simpa using h

set_option maxHeartbeats 1600000 in
set_option maxRecDepth 100000 in
theorem fl_dyad_core (s : Bool) (v m0 e0 m1 : Nat) (x : Dy) (w : World) (hT : Hid (Tab6 w)) (hv : v < 18446744073709551616) (hf : finB v = true) (hA : bits .and .u64 (v : Int) 4503599627370495 = (m0 : Int)) (hS : bits .and .u64 (v : Int) 9223372036854775808 = (if s then 9223372036854775808 else 0)) (hE : bits .and .u64 ((v : Int) / 4503599627370496) 2047 = (e0 : Int)) (he : e0 < 2048)
    (hO : e0 ≠ 0 → bits .or .u64 (m0 : Int) 4503599627370496 = (m1 : Int)) (hm1 : (m1 : Int) < 9007199254740992) (h0 : e0 = 0 → m0 = m1) (hx : nrm (sg s m1) ((if e0 = 0 then 1 else (e0 : Int)) - 1 + -1074) = x) : Calls Tryd.prog 59 #[.float .f64 v] w (QDPost x true w) := by
  have hk := (KB.start w).new 37 [.bool false, .slice none 0 0, .int .i64 0]
  have HT := Lib.hid (hT.out.keep hk.only)
  have HK := Lib.hid hk
  have HV := Lib.hid hv
  have HM : Hid (m1 < BB) := by show _ < _; rw [BB_val]; omega
  have HB : Hid (bitsN (sg s m1).natAbs ≤ 16777216) := by
    show _ ≤ _
    rw [sg_abs]
    exact Nat.le_trans (bitsN_le (show m1 < 2 ^ 53 by omega)) (by decide)
  have hbr := bits_run v
  clear hk hT hv
  by_cases hz : e0 = 0
  · subst hz
    have h01 := h0 rfl
    subst h01
    rw [if_pos rfl] at hx
    have HX : Hid (nrm (sg s m0) (-1074) = x) := hx
    clear hx h0 hO he hm1
    cases s
    · simp only [Bool.false_eq_true, if_false] at hS
      go_enter Tryd.func59, Tryd.ntmps59
      go_wp2_with (go_at_call 7; (with_reducible refine (finite_any v HV.out _).mono ?_); rw [hf]; rintro e w' ⟨rfl, rfl⟩)
      have hol := of_lit m0 ((m0 : Nat) : Int) (w.alloc (.cells #[.bool false, .slice none 0 0, .int .i64 0] 37)) HM (Lib.hid rfl)
      simp only [World.size_alloc] at hol
      (with_reducible refine hol.mono ?_)
      clear hol
      rintro e w2 ⟨A2, k2, c2, rfl, hr2, hv2, ho2⟩
      replace HK := Lib.hid (HK.out.step ho2)
      replace HT := Lib.hid (HT.out.keep ho2)
      have HV2 := Lib.hid hv2
      clear hr2 hv2 ho2
      go_wp2_with fail
      (with_reducible refine (make_w false HV2).mono ?_)
      rintro e w3 ⟨s3, A3, k3, c3, rfl, -, -, hv3, ho3⟩
      replace HK := Lib.hid (HK.out.step ho3)
      replace HT := Lib.hid (HT.out.keep ho3)
      have HV3 := Lib.hid hv3
      clear hv3 ho3
      go_wp2_with fail
      (with_reducible refine (make_d HV3 HB (by omega) (by omega) HT).mono ?_)
      rintro e w4 ⟨s4, A4, k4, c4, rfl, hs4, hk4, hv4, ho4⟩
      replace HK := Lib.hid (HK.out.step ho4)
      have HC : Hid (Cn s4 k4 (nrm (sg false m0) _).z) := ⟨hs4, hk4⟩
      have HV4 := Lib.hid hv4
      obtain ⟨c0, c1', c2', f0, f1, f2⟩ := HK.out.c3 0 rfl
      clear ho4 hs4 hk4 hv4
      rw [HX.out] at HC HV4
      rw [HX.out]
      go_wp2_with fail
      refine bodyPost_ret (v := .tuple #[.agg #[.bool s4, .slice A4 k4 c4, .int .i64 (x.e)], .bool true]) (by simp [results, Tryd.results59, go_sem, c0, c1', c2']) rfl ?_
      exact QDPost.of (dfin HC HV4 (by omega) (HK.out.blk 0 rfl) (noLimb3 _ _ _ _ _) HK.out.only (only_set3 _ _ _ _ _))
    · simp only [if_true] at hS
      go_enter Tryd.func59, Tryd.ntmps59
      go_wp2_with (go_at_call 7; (with_reducible refine (finite_any v HV.out _).mono ?_); rw [hf]; rintro e w' ⟨rfl, rfl⟩)
      have hol := of_lit m0 ((m0 : Nat) : Int) (w.alloc (.cells #[.bool false, .slice none 0 0, .int .i64 0] 37)) HM (Lib.hid rfl)
      simp only [World.size_alloc] at hol
      (with_reducible refine hol.mono ?_)
      clear hol
      rintro e w2 ⟨A2, k2, c2, rfl, hr2, hv2, ho2⟩
      replace HK := Lib.hid (HK.out.step ho2)
      replace HT := Lib.hid (HT.out.keep ho2)
      have HV2 := Lib.hid hv2
      clear hr2 hv2 ho2
      go_wp2_with fail
      (with_reducible refine (make_w true HV2).mono ?_)
      rintro e w3 ⟨s3, A3, k3, c3, rfl, -, -, hv3, ho3⟩
      replace HK := Lib.hid (HK.out.step ho3)
      replace HT := Lib.hid (HT.out.keep ho3)
      have HV3 := Lib.hid hv3
      clear hv3 ho3
      go_wp2_with fail
      (with_reducible refine (make_d HV3 HB (by omega) (by omega) HT).mono ?_)
      rintro e w4 ⟨s4, A4, k4, c4, rfl, hs4, hk4, hv4, ho4⟩
      replace HK := Lib.hid (HK.out.step ho4)
      have HC : Hid (Cn s4 k4 (nrm (sg true m0) _).z) := ⟨hs4, hk4⟩
      have HV4 := Lib.hid hv4
      obtain ⟨c0, c1', c2', f0, f1, f2⟩ := HK.out.c3 0 rfl
      clear ho4 hs4 hk4 hv4
      rw [HX.out] at HC HV4
      rw [HX.out]
      go_wp2_with fail
      refine bodyPost_ret (v := .tuple #[.agg #[.bool s4, .slice A4 k4 c4, .int .i64 (x.e)], .bool true]) (by simp [results, Tryd.results59, go_sem, c0, c1', c2']) rfl ?_
      exact QDPost.of (dfin HC HV4 (by omega) (HK.out.blk 0 rfl) (noLimb3 _ _ _ _ _) HK.out.only (only_set3 _ _ _ _ _))
  · rw [if_neg hz] at hx
    have HX := Lib.hid hx
    have hO' := hO hz
    have hz' : ((e0 : Int) == 0) = false := by rw [beq_eq_false_iff_ne]; omega
    have he' : (e0 : Int) < 2048 := by omega
    have hz2 : ¬ (e0 : Int) = 0 := by omega
    clear hx h0 he hm1 hz hO
    cases s
    · simp only [Bool.false_eq_true, if_false] at hS
      go_enter Tryd.func59, Tryd.ntmps59
      go_wp2_with (go_at_call 7; (with_reducible refine (finite_any v HV.out _).mono ?_); rw [hf]; rintro e w' ⟨rfl, rfl⟩)
      have hol := of_lit m1 ((m1 : Nat) : Int) (w.alloc (.cells #[.bool false, .slice none 0 0, .int .i64 0] 37)) HM (Lib.hid rfl)
      simp only [World.size_alloc] at hol
      (with_reducible refine hol.mono ?_)
      clear hol
      rintro e w2 ⟨A2, k2, c2, rfl, hr2, hv2, ho2⟩
      replace HK := Lib.hid (HK.out.step ho2)
      replace HT := Lib.hid (HT.out.keep ho2)
      have HV2 := Lib.hid hv2
      clear hr2 hv2 ho2
      go_wp2_with fail
      (with_reducible refine (make_w false HV2).mono ?_)
      rintro e w3 ⟨s3, A3, k3, c3, rfl, -, -, hv3, ho3⟩
      replace HK := Lib.hid (HK.out.step ho3)
      replace HT := Lib.hid (HT.out.keep ho3)
      have HV3 := Lib.hid hv3
      clear hv3 ho3
      go_wp2_with fail
      (with_reducible refine (make_d HV3 HB (by omega) (by omega) HT).mono ?_)
      rintro e w4 ⟨s4, A4, k4, c4, rfl, hs4, hk4, hv4, ho4⟩
      replace HK := Lib.hid (HK.out.step ho4)
      have HC : Hid (Cn s4 k4 (nrm (sg false m1) _).z) := ⟨hs4, hk4⟩
      have HV4 := Lib.hid hv4
      obtain ⟨c0, c1', c2', f0, f1, f2⟩ := HK.out.c3 0 rfl
      clear ho4 hs4 hk4 hv4
      rw [HX.out] at HC HV4
      rw [HX.out]
      go_wp2_with fail
      refine bodyPost_ret (v := .tuple #[.agg #[.bool s4, .slice A4 k4 c4, .int .i64 (x.e)], .bool true]) (by simp [results, Tryd.results59, go_sem, c0, c1', c2']) rfl ?_
      exact QDPost.of (dfin HC HV4 (by omega) (HK.out.blk 0 rfl) (noLimb3 _ _ _ _ _) HK.out.only (only_set3 _ _ _ _ _))
    · simp only [if_true] at hS
      go_enter Tryd.func59, Tryd.ntmps59
      go_wp2_with (go_at_call 7; (with_reducible refine (finite_any v HV.out _).mono ?_); rw [hf]; rintro e w' ⟨rfl, rfl⟩)
      have hol := of_lit m1 ((m1 : Nat) : Int) (w.alloc (.cells #[.bool false, .slice none 0 0, .int .i64 0] 37)) HM (Lib.hid rfl)
      simp only [World.size_alloc] at hol
      (with_reducible refine hol.mono ?_)
      clear hol
      rintro e w2 ⟨A2, k2, c2, rfl, hr2, hv2, ho2⟩
      replace HK := Lib.hid (HK.out.step ho2)
      replace HT := Lib.hid (HT.out.keep ho2)
      have HV2 := Lib.hid hv2
      clear hr2 hv2 ho2
      go_wp2_with fail
      (with_reducible refine (make_w true HV2).mono ?_)
      rintro e w3 ⟨s3, A3, k3, c3, rfl, -, -, hv3, ho3⟩
      replace HK := Lib.hid (HK.out.step ho3)
      replace HT := Lib.hid (HT.out.keep ho3)
      have HV3 := Lib.hid hv3
      clear hv3 ho3
      go_wp2_with fail
      (with_reducible refine (make_d HV3 HB (by omega) (by omega) HT).mono ?_)
      rintro e w4 ⟨s4, A4, k4, c4, rfl, hs4, hk4, hv4, ho4⟩
      replace HK := Lib.hid (HK.out.step ho4)
      have HC : Hid (Cn s4 k4 (nrm (sg true m1) _).z) := ⟨hs4, hk4⟩
      have HV4 := Lib.hid hv4
      obtain ⟨c0, c1', c2', f0, f1, f2⟩ := HK.out.c3 0 rfl
      clear ho4 hs4 hk4 hv4
      rw [HX.out] at HC HV4
      rw [HX.out]
      go_wp2_with fail
      refine bodyPost_ret (v := .tuple #[.agg #[.bool s4, .slice A4 k4 c4, .int .i64 (x.e)], .bool true]) (by simp [results, Tryd.results59, go_sem, c0, c1', c2']) rfl ?_
      exact QDPost.of (dfin HC HV4 (by omega) (HK.out.blk 0 rfl) (noLimb3 _ _ _ _ _) HK.out.only (only_set3 _ _ _ _ _))

theorem fl_dyad (s : Bool) {r : Nat} (h : r < INF) (w : World) (hT : Hid (Tab6 w)) : Calls Tryd.prog 59 #[.float .f64 (wordB s r)] w (QDPost (fD s r) true w) := by
  have h2 : r < 9223372036854775808 := by unfold INF at h; omega
  obtain ⟨h1, h3, h4⟩ := word_parts_bits s h2
  refine fl_dyad_core s (wordB s r) (r % 4503599627370496) (r / 4503599627370496) (mantW r) _ w hT (word_lt s h2) (finN s h) h1 h3 h4 (by omega) (fun h0 => ?_) (by have := mant_lt r; omega) (fun h0 => ?_) ?_
  · rw [or_b52 (Nat.mod_lt _ (by omega))]
    unfold mantW
    rw [if_neg (by omega)]
  · unfold mantW
    rw [if_pos (by omega)]
    omega
  · unfold fD expoW
    congr 1
    split <;> omega

end Fl

end Go.Proofs.YtkibkmdgibemkaaDoor

/-
  The reference's dyad of a float: compassref1.Of, Finite.
-/
namespace Go.Proofs.YtkibkmdgibemkaaDoor
set_option linter.unusedSimpArgs false
open Go.RowKit

namespace Fl
set_option maxHeartbeats 1600000 in
set_option maxRecDepth 100000 in
theorem rof_core (s : Bool) (v m0 e0 m1 : Nat) (x : Dy) (w : World) (hv : (v : Int).tmod 4503599627370496 = (m0 : Int)) (hE : ((v : Int) / 4503599627370496).tmod 2048 = (e0 : Int)) (hE' : (v : Int) / 4503599627370496 % 2048 = (e0 : Int)) (tp : Int) (hS : (v : Int) / 9223372036854775808 = tp) (hS2 : (tp == 1) = s) (he : (e0 : Int) < 2048)
    (hO : e0 ≠ 0 → (m0 : Int) + 4503599627370496 = (m1 : Int)) (hm1 : m1 < 9007199254740992) (h0 : e0 = 0 → m0 = m1) (hx : nrm (sg s m1) ((if e0 = 0 then 1 else (e0 : Int)) - 1075) = x) : Calls Tryd.prog 8 #[.float .f64 v] w (RDP x w) := by
  have HK := Lib.hid ((KB.start w).new 31 [.bool false, .slice none 0 0, .int .i64 0])
  have HM : Hid (m1 < BB) := by show _ < _; rw [BB_val]; omega
  have HF : Hid (Few m1) := few_small HM.out
  have hbr := bits_run v
  by_cases hz : e0 = 0
  · subst hz
    have h01 := h0 rfl
    subst h01
    rw [if_pos rfl] at hx
    have HX : Hid (nrm (sg s m0) (-1074) = x) := hx
    clear hx h0 hO he hm1
    cases s
    · skip
      go_enter Tryd.func8, Tryd.ntmps8
      go_wp2_with fail
      (with_reducible refine (rsmall_any m0 _ HM).mono ?_)
      rintro e w1 ⟨A1, k1, c1, rfl, hv1, -, ho1⟩
      have HV1 := Lib.hid hv1
      replace HK := Lib.hid (HK.out.step ho1)
      clear hv1 ho1
      go_wp2_with fail
      (with_reducible refine (rmake_d false (-1074) HV1 HF (by omega) (by omega) HX.out).mono ?_)
      rintro e1 w2 ⟨s1, A1, k1, c1, rfl, hc, hv, ho⟩
      have hk := HK.out.step ho
      obtain ⟨q0, q1, q2, f0, f1, f2⟩ := hk.c3 0 rfl
      have HB := Lib.hid (hk.blk 0 rfl)
      have HO := Lib.hid hk.only
      have HV2 := Lib.hid hv
      have HC1 := Lib.hid hc
      clear hk ho hv hc HK HX
      go_wp2_with fail
      refine bodyPost_ret (v := .agg #[.bool s1, .slice A1 k1 c1, .int .i64 (x.e)]) (by simp [results, Tryd.results8, go_sem, q0, q1, q2]) rfl ?_
      exact rdfin HV2 HC1 (Nat.le_refl _) HB.out (noLimb3 _ _ _ _ _) HO.out (only_set3 _ _ _ _ _)
    · skip
      go_enter Tryd.func8, Tryd.ntmps8
      go_wp2_with fail
      (with_reducible refine (rsmall_any m0 _ HM).mono ?_)
      rintro e w1 ⟨A1, k1, c1, rfl, hv1, -, ho1⟩
      have HV1 := Lib.hid hv1
      replace HK := Lib.hid (HK.out.step ho1)
      clear hv1 ho1
      go_wp2_with fail
      (with_reducible refine (rmake_d true (-1074) HV1 HF (by omega) (by omega) HX.out).mono ?_)
      rintro e1 w2 ⟨s1, A1, k1, c1, rfl, hc, hv, ho⟩
      have hk := HK.out.step ho
      obtain ⟨q0, q1, q2, f0, f1, f2⟩ := hk.c3 0 rfl
      have HB := Lib.hid (hk.blk 0 rfl)
      have HO := Lib.hid hk.only
      have HV2 := Lib.hid hv
      have HC1 := Lib.hid hc
      clear hk ho hv hc HK HX
      go_wp2_with fail
      refine bodyPost_ret (v := .agg #[.bool s1, .slice A1 k1 c1, .int .i64 (x.e)]) (by simp [results, Tryd.results8, go_sem, q0, q1, q2]) rfl ?_
      exact rdfin HV2 HC1 (Nat.le_refl _) HB.out (noLimb3 _ _ _ _ _) HO.out (only_set3 _ _ _ _ _)
  · rw [if_neg hz] at hx
    have HX := Lib.hid hx
    have hO' : IntKind.u64.wrap ((m0 : Int) + 4503599627370496) = (m1 : Int) := by rw [hO hz, IntKind.wrap_u64]; omega
    have hz' : (0 : Int) < (e0 : Int) := by omega
    clear hx h0 hm1 hz hO
    cases s
    · skip
      go_enter Tryd.func8, Tryd.ntmps8
      go_wp2_with fail
      (with_reducible refine (rsmall_any m1 _ HM).mono ?_)
      rintro e w1 ⟨A1, k1, c1, rfl, hv1, -, ho1⟩
      have HV1 := Lib.hid hv1
      replace HK := Lib.hid (HK.out.step ho1)
      clear hv1 ho1
      go_wp2_with fail
      (with_reducible refine (rmake_d false ((e0 : Int) - 1075) HV1 HF (by omega) (by omega) HX.out).mono ?_)
      rintro e1 w2 ⟨s1, A1, k1, c1, rfl, hc, hv, ho⟩
      have hk := HK.out.step ho
      obtain ⟨q0, q1, q2, f0, f1, f2⟩ := hk.c3 0 rfl
      have HB := Lib.hid (hk.blk 0 rfl)
      have HO := Lib.hid hk.only
      have HV2 := Lib.hid hv
      have HC1 := Lib.hid hc
      clear hk ho hv hc HK HX
      go_wp2_with fail
      refine bodyPost_ret (v := .agg #[.bool s1, .slice A1 k1 c1, .int .i64 (x.e)]) (by simp [results, Tryd.results8, go_sem, q0, q1, q2]) rfl ?_
      exact rdfin HV2 HC1 (Nat.le_refl _) HB.out (noLimb3 _ _ _ _ _) HO.out (only_set3 _ _ _ _ _)
    · skip
      go_enter Tryd.func8, Tryd.ntmps8
      go_wp2_with fail
      (with_reducible refine (rsmall_any m1 _ HM).mono ?_)
      rintro e w1 ⟨A1, k1, c1, rfl, hv1, -, ho1⟩
      have HV1 := Lib.hid hv1
      replace HK := Lib.hid (HK.out.step ho1)
      clear hv1 ho1
      go_wp2_with fail
      (with_reducible refine (rmake_d true ((e0 : Int) - 1075) HV1 HF (by omega) (by omega) HX.out).mono ?_)
      rintro e1 w2 ⟨s1, A1, k1, c1, rfl, hc, hv, ho⟩
      have hk := HK.out.step ho
      obtain ⟨q0, q1, q2, f0, f1, f2⟩ := hk.c3 0 rfl
      have HB := Lib.hid (hk.blk 0 rfl)
      have HO := Lib.hid hk.only
      have HV2 := Lib.hid hv
      have HC1 := Lib.hid hc
      clear hk ho hv hc HK HX
      go_wp2_with fail
      refine bodyPost_ret (v := .agg #[.bool s1, .slice A1 k1 c1, .int .i64 (x.e)]) (by simp [results, Tryd.results8, go_sem, q0, q1, q2]) rfl ?_
      exact rdfin HV2 HC1 (Nat.le_refl _) HB.out (noLimb3 _ _ _ _ _) HO.out (only_set3 _ _ _ _ _)
theorem rof_d (s : Bool) {r : Nat} (h : r < INF) (w : World) : Calls Tryd.prog 8 #[.float .f64 (wordB s r)] w (RDP (fD s r) w) := by
  have h2 : r < 9223372036854775808 := by unfold INF at h; omega
  have h3 : r < 9218868437227405312 := h
  have hw : (wordB s r : Int) = (if s then 9223372036854775808 else 0) + (r : Int) := by cases s <;> simp [wordB]
  have e1 : (wordB s r : Int) % 4503599627370496 = ((r % 4503599627370496 : Nat) : Int) := by rw [hw]; cases s <;> simp <;> omega
  have e2 : (wordB s r : Int) / 4503599627370496 % 2048 = ((r / 4503599627370496 : Nat) : Int) := by rw [hw]; cases s <;> simp <;> omega
  have e3 : (wordB s r : Int) / 9223372036854775808 = (if s then 1 else 0) := by rw [hw]; cases s <;> simp <;> omega
  refine rof_core s (wordB s r) (r % 4503599627370496) (r / 4503599627370496) (mantW r) _ w (by rw [Int.tmod_eq_emod_of_nonneg (by omega)]; exact e1) (by rw [Int.tmod_eq_emod_of_nonneg (by omega)]; exact e2) e2 _ e3 (by cases s <;> rfl) (by omega) (fun h0 => ?_) (mant_lt r) (fun h0 => ?_) ?_
  · unfold mantW
    rw [if_neg (by omega)]
    omega
  · unfold mantW
    rw [if_pos (by omega)]
    omega
  · unfold fD expoW
    congr 1
    split <;> omega
theorem rfinite_any (b : Nat) (hb : b < 18446744073709551616) (w : World) : Calls Tryd.prog 44 #[.float .f64 b] w fun e w' => e = .returned (.bool (finB b)) ∧ w = w' := by
  have h := bits_run
  have e1 : (b : Int) / 4503599627370496 % 2048 = ((b / 4503599627370496 % 2048 : Nat) : Int) := by omega
  have e2 : ((b : Int) / 4503599627370496).tmod 2048 = ((b / 4503599627370496 % 2048 : Nat) : Int) := by rw [Int.tmod_eq_emod_of_nonneg (by omega)]; exact e1
  obtain ⟨c, hc⟩ : ∃ c, b / 4503599627370496 % 2048 = c := ⟨_, rfl⟩
  rw [hc] at e1 e2
  have HF : Hid (((c : Int) != 2047) = finB b) := by
    show _ = _
    unfold finB
    rw [hc, Bool.eq_iff_iff, bne_iff_ne, decide_eq_true_eq]
    omega
  clear hb hc
  go_enter Tryd.func44, Tryd.ntmps44
  go_wp2_with fail
  go_ret
  exact ⟨by rw [← HF.out]; rfl, rfl⟩
end Fl
end Go.Proofs.YtkibkmdgibemkaaDoor

/-
  Gaps by value at a door seat: compasslaw7.known.
-/
namespace Go.Proofs.YtkibkmdgibemkaaDoor
set_option linter.unusedSimpArgs false
open Go.RowKit
namespace Fl
attribute [local go_sem] run_store_float

set_option maxHeartbeats 400000 in
theorem lknown_any (lo hi : Nat) (hlo : lo < 18446744073709551616) (hhi : hi < 18446744073709551616) (w : World) :
    Calls Tryd.prog 5 #[.agg #[.float .f64 lo, .float .f64 hi]] w fun e w' => e = .returned (.bool (kn lo hi)) ∧ Only [] w w' := by
  have Hlo := Lib.hid hlo
  have Hhi := Lib.hid hhi
  have ho := (Only.refl [] w).alloc (.cells #[.float .f64 lo, .float .f64 hi] 24)
  cases h1 : finB lo <;> cases h2 : finB hi
  all_goals
    go_enter Tryd.func5, Tryd.ntmps5
    go_wp2_with (go_at_call 44; (with_reducible refine (rfinite_any _ (by first | exact Hlo.out | exact Hhi.out) _).mono ?_); rintro e w' ⟨rfl, rfl⟩)
    all_goals go_ret
    all_goals exact ⟨by simp [kn, leB, ord, h1, h2], ho⟩
end Fl
end Go.Proofs.YtkibkmdgibemkaaDoor

/-
  Gaps by value at a door seat: Has.
-/
namespace Go.Proofs.YtkibkmdgibemkaaDoor
set_option linter.unusedSimpArgs false
open Go.RowKit
namespace Fl
attribute [local go_sem] run_store_float

/-- An unknown gap has every number. -/
theorem ghas_no (lo hi : Nat) (hlo : Hid (lo < 18446744073709551616)) (hhi : Hid (hi < 18446744073709551616)) (hk0 : kn lo hi = false) {w : World} {b : Value} {z : Dy} (hb : Hid (DV w b z)) : Calls Tryd.prog 14 #[.agg #[.float .f64 lo, .float .f64 hi], b] w fun e w' => e = .returned (.bool true) ∧ Only [] w w' := by
  obtain ⟨s2, A2, k2, c2, rfl, hz⟩ := hb.out
  have hk := ((KB.start w).new 24 [.float .f64 lo, .float .f64 hi]).new 37 [.bool s2, .slice A2 k2 c2, .int .i64 z.e]
  simp only [World.size_alloc] at hk
  have HK := Lib.hid hk
  have hB := HK.out.blk 1 rfl
  have c0 := hB.cell 0
  have c1 := hB.cell 1
  simp only [List.getElem?_cons_zero, List.getElem?_cons_succ] at c0 c1
  clear hk hB hb hz
  go_enter Tryd.func14, Tryd.ntmps14
  go_wp2_with fail
  (with_reducible refine (known_any lo hi hlo.out hhi.out _).mono ?_)
  rw [hk0]
  rintro e w2 ⟨rfl, ho⟩
  replace HK := Lib.hid (HK.out.step ho)
  clear ho c0 c1
  go_wp2_with fail
  go_ret
  exact ⟨rfl, HK.out.only⟩

set_option maxHeartbeats 3200000 in
set_option maxRecDepth 100000 in
theorem ghas_yes (s1 s2 : Bool) {r1 r2 : Nat} (h1 : r1 < INF) (h2 : r2 < INF) (hlo : Hid (wordB s1 r1 < 18446744073709551616)) (hhi : Hid (wordB s2 r2 < 18446744073709551616)) (hk0 : kn (wordB s1 r1) (wordB s2 r2) = true) {w : World} {b : Value} {z : Dy} {N : Nat} (r : Bool) (hr : (decide ((fD s1 r1).q ≤ z.q) && decide (z.q ≤ (fD s2 r2).q)) = r) (hT : Hid (Tab6 w)) (hb : Hid (DV w b z)) (bx : Hid (Bnd N (fD s1 r1))) (by_ : Hid (Bnd N (fD s2 r2))) (bz : Hid (Bnd N z)) (hN : N ≤ 2000000) : Calls Tryd.prog 14 #[.agg #[.float .f64 (wordB s1 r1), .float .f64 (wordB s2 r2)], b] w fun e w' => e = .returned (.bool r) ∧ Only [] w w' := by
  have hD1 := fun w hT => fl_dyad s1 h1 w hT
  have hD2 := fun w hT => fl_dyad s2 h2 w hT
  generalize fD s1 r1 = x at *
  generalize fD s2 r2 = y at *
  generalize wordB s1 r1 = lo at *
  generalize wordB s2 r2 = hi at *
  have HD1 := Lib.hid hD1
  have HD2 := Lib.hid hD2
  clear hD1 hD2 h1 h2
  obtain ⟨s3, A3, k3, c3, rfl, hz⟩ := hb.out
  have hk := ((KB.start w).new 24 [.float .f64 lo, .float .f64 hi]).new 37 [.bool s3, .slice A3 k3 c3, .int .i64 z.e]
  simp only [World.size_alloc] at hk
  have HZ := Lib.hid (hz.only hk.only)
  have HT := Lib.hid (hT.out.keep hk.only)
  have HK := Lib.hid hk
  obtain ⟨c1', h1⟩ : ∃ q, cmpQ x.q z.q = q := ⟨_, rfl⟩
  obtain ⟨c2', h2⟩ : ∃ q, cmpQ z.q y.q = q := ⟨_, rfl⟩
  have e1 : decide (x.q ≤ z.q) = decide (c1' ≤ 0) := by rw [← h1]; exact decide_eq_decide.2 cmpQ_le.symm
  have e2 : decide (z.q ≤ y.q) = decide (c2' ≤ 0) := by rw [← h2]; exact decide_eq_decide.2 cmpQ_le.symm
  rw [e1, e2] at hr
  have H1 := Lib.hid h1
  have H2 := Lib.hid h2
  have hB := HK.out.blk 1 rfl
  have c0 := hB.cell 0
  have c1 := hB.cell 1
  simp only [List.getElem?_cons_zero, List.getElem?_cons_succ] at c0 c1
  clear hk hB hb hz e1 e2 h1 h2 hT
  go_enter Tryd.func14, Tryd.ntmps14
  go_wp2_with fail
  (with_reducible refine (known_any lo hi hlo.out hhi.out _).mono ?_)
  rw [hk0]
  rintro e w2 ⟨rfl, ho⟩
  replace HT := Lib.hid (HT.out.keep ho)
  replace HZ := Lib.hid (HZ.out.only ho)
  replace HK := Lib.hid (HK.out.step ho)
  clear ho c0 c1
  have hB := HK.out.blk 1 rfl
  have c0 := hB.cell 0
  have c1 := hB.cell 1
  simp only [List.getElem?_cons_zero, List.getElem?_cons_succ] at c0 c1
  clear hB
  go_wp2_with fail
  (with_reducible refine (HD1.out _ HT).mono ?_)
  rintro e w5 ⟨s5, A5, k5, c5, rfl, hs5, hk5, hv, ho⟩
  have ha := (Only.refl [] w5).alloc (.cells #[.bool s5, .slice A5 k5 c5, .int .i64 x.e] 37)
  have HX := Lib.hid (hv.only ha)
  have hk := (HK.out.step ho).new 37 [.bool s5, .slice A5 k5 c5, .int .i64 x.e]
  replace HZ := Lib.hid ((HZ.out.only ho).only ha)
  replace HT := Lib.hid ((HT.out.keep ho).keep ha)
  replace HK := Lib.hid hk
  clear hv ho ha hk hs5 hk5 c0 c1
  have hB := HK.out.blk 2 rfl
  have c0 := hB.cell 0
  have c1 := hB.cell 1
  simp only [List.getElem?_cons_zero, List.getElem?_cons_succ] at c0 c1
  clear hB
  go_wp2_with fail
  (with_reducible refine (HD2.out _ HT).mono ?_)
  rintro e w6 ⟨s6, A6, k6, c6, rfl, hs6, hk6, hv, ho⟩
  have ha := (Only.refl [] w6).alloc (.cells #[.bool s6, .slice A6 k6 c6, .int .i64 y.e] 37)
  have HY := Lib.hid (hv.only ha)
  have hk := (HK.out.step ho).new 37 [.bool s6, .slice A6 k6 c6, .int .i64 y.e]
  replace HX := Lib.hid ((HX.out.only ho).only ha)
  replace HZ := Lib.hid ((HZ.out.only ho).only ha)
  replace HK := Lib.hid hk
  clear hv ho ha hk hs6 hk6 c0 c1
  obtain ⟨i0, i1, i2, -, -, -⟩ := HK.out.c3 0 rfl
  obtain ⟨j0, j1, j2, -, -, -⟩ := HK.out.c3 1 rfl
  obtain ⟨l0, l1, l2, -, -, -⟩ := HK.out.c3 2 rfl
  go_wp2_with fail
  (with_reducible refine (cmpV_d c1' (DV.of HX) (DV.of HZ) bx bz hN H1.out).mono ?_)
  rintro e w2 ⟨rfl, ho⟩
  replace HK := Lib.hid (HK.out.step ho)
  replace HY := Lib.hid (HY.out.only ho)
  replace HZ := Lib.hid (HZ.out.only ho)
  clear ho i0 i1 i2 j0 j1 j2 l0 l1 l2
  obtain ⟨i0, i1, i2, -, -, -⟩ := HK.out.c3 0 rfl
  obtain ⟨l0, l1, l2, -, -, -⟩ := HK.out.c3 2 rfl
  by_cases h : c1' ≤ 0
  · rw [decide_eq_true h, Bool.true_and] at hr
    go_wp2_with fail
    (with_reducible refine (cmpV_d c2' (DV.of HZ) (DV.of HY) bz by_ hN H2.out).mono ?_)
    rintro e w3 ⟨rfl, ho⟩
    replace HK := Lib.hid (HK.out.step ho)
    clear ho
    go_wp2_with fail
    go_ret
    exact ⟨rfl, HK.out.only⟩
  · rw [decide_eq_false h, Bool.false_and] at hr
    subst hr
    go_wp2_with fail
    go_ret
    exact ⟨rfl, HK.out.only⟩
end Fl
end Go.Proofs.YtkibkmdgibemkaaDoor
