/-
  Package flo by value: Dyad, beyond, within, exact, Float.
-/
import Derived.Test.YtigpnopeacicpaaDoorTaGFlo
import Derived.Test.YtigpnopeacicpaaDoorTaDyN
import Derived.Test.YtigpnopeacicpaaDoorTaGTyp
namespace Go.Proofs.YtigpnopeacicpaaDoor
set_option linter.unusedSimpArgs false
open Go.RowKit

namespace Fl

theorem word_parts_bits (s : Bool) {r : Nat} (h : r < 9223372036854775808) : bits .and .u64 ((wordB s r : Nat) : Int) 4503599627370495 = ((r % 4503599627370496 : Nat) : Int) ∧ bits .and .u64 ((wordB s r : Nat) : Int) 9223372036854775808 = (if s then 9223372036854775808 else 0) ∧ bits .and .u64 (((wordB s r : Nat) : Int) / 4503599627370496) 2047 = ((r / 4503599627370496 : Nat) : Int) := by
  have hv := word_lt s h
  refine ⟨?_, ?_, ?_⟩
  · have h1 := bits_and_u64_nat (wordB s r) 4503599627370495 hv (by omega)
    rw [show (4503599627370495 : Int) = ((4503599627370495 : Nat) : Int) from rfl, h1, show (4503599627370495 : Nat) = 2 ^ 52 - 1 by decide, Nat.and_two_pow_sub_one_eq_mod]
    cases s <;> simp only [wordB, Bool.false_eq_true, if_false, if_true] <;> congr 1 <;> omega
  · have h1 := bits_and_u64_nat (wordB s r) 9223372036854775808 hv (by omega)
    rw [show (9223372036854775808 : Int) = ((9223372036854775808 : Nat) : Int) from rfl, h1]
    cases s
    · simp only [wordB, Bool.false_eq_true, if_false]
      have h0 : r &&& 9223372036854775808 = 0 := by
        apply Nat.eq_of_testBit_eq
        intro i
        rw [Nat.testBit_and, show (9223372036854775808 : Nat) = 2 ^ 63 by decide, Nat.testBit_two_pow, Nat.zero_testBit]
        by_cases hi : 63 = i
        · subst hi; rw [Nat.testBit_lt_two_pow (by omega)]; rfl
        · rw [decide_eq_false hi, Bool.and_false]
      rw [h0]
      rfl
    · simp only [wordB, if_true]
      have h0 : (9223372036854775808 + r) &&& 9223372036854775808 = 9223372036854775808 := by
        apply Nat.eq_of_testBit_eq
        intro i
        rw [Nat.testBit_and, show (9223372036854775808 : Nat) = 2 ^ 63 by decide, Nat.testBit_two_pow]
        by_cases hi : 63 = i
        · subst hi; rw [Nat.testBit_two_pow_add_eq, Nat.testBit_lt_two_pow (by omega)]; rfl
        · rw [decide_eq_false hi, Bool.and_false]
      rw [h0]
  · have e1 : (((wordB s r : Nat) : Int) / 4503599627370496) = ((wordB s r / 4503599627370496 : Nat) : Int) := by omega
    have h1 := bits_and_u64_nat (wordB s r / 4503599627370496) 2047 (by omega) (by omega)
    rw [e1, show (2047 : Int) = ((2047 : Nat) : Int) from rfl, h1, show (2047 : Nat) = 2 ^ 11 - 1 by decide, Nat.and_two_pow_sub_one_eq_mod]
    cases s <;> simp only [wordB, Bool.false_eq_true, if_false, if_true] <;> congr 1 <;> omega

theorem or_b52 {m : Nat} (h : m < 4503599627370496) : bits .or .u64 (m : Int) 4503599627370496 = ((4503599627370496 + m : Nat) : Int) := by
  have h1 := bits_or_u64_nat m 4503599627370496 (by omega) (by omega)
  rw [show (4503599627370496 : Int) = ((4503599627370496 : Nat) : Int) from rfl, h1]
  congr 1
  rw [Nat.or_comm, show (4503599627370496 : Nat) = 2 ^ 52 * 1 by decide, ← Nat.two_pow_add_eq_or_of_lt (by omega)]

theorem mant_lt (r : Nat) : mantW r < 9007199254740992 := by unfold mantW; split <;> omega

theorem finN (s : Bool) {r : Nat} (h : r < INF) : finB (wordB s r) = true := by rw [fin_word s (by unfold INF at h; omega)]; simpa using h

set_option maxHeartbeats 1600000 in
set_option maxRecDepth 100000 in
theorem fl_dyad_core (s : Bool) (v m0 e0 m1 : Nat) (x : Dy) (w : World) (hT : Hid (Tab6 w)) (hv : v < 18446744073709551616) (hf : finB v = true) (hA : bits .and .u64 (v : Int) 4503599627370495 = (m0 : Int)) (hS : bits .and .u64 (v : Int) 9223372036854775808 = (if s then 9223372036854775808 else 0)) (hE : bits .and .u64 ((v : Int) / 4503599627370496) 2047 = (e0 : Int)) (he : e0 < 2048)
    (hO : e0 ≠ 0 → bits .or .u64 (m0 : Int) 4503599627370496 = (m1 : Int)) (hm1 : (m1 : Int) < 9007199254740992) (h0 : e0 = 0 → m0 = m1) (hx : nrm (sg s m1) ((if e0 = 0 then 1 else (e0 : Int)) - 1 + -1074) = x) : Calls Tryd.prog 128 #[.float .f64 v] w (QDPost x true w) := by
  have hk := (KB.start w).new 181 [.bool false, .slice none 0 0, .int .i64 0]
  have HT := Lib.hid (hT.out.keep hk.only)
  have HK := Lib.hid hk
  have HV := Lib.hid hv
  have HM : Hid (m1 < BB) := by show _ < _; rw [BB_val]; omega
  have HB : Hid (bitsN (sg s m1).natAbs ≤ 16777216) := by
    show _ ≤ _
    rw [sg_abs]
    exact Nat.le_trans (bitsN_le (show m1 < 2 ^ 53 by omega)) (by decide)
  have hbr := bits_run v
  clear hk hT hv
  by_cases hz : e0 = 0
  · subst hz
    have h01 := h0 rfl
    subst h01
    rw [if_pos rfl] at hx
    have HX : Hid (nrm (sg s m0) (-1074) = x) := hx
    clear hx h0 hO he hm1
    cases s
    · simp only [Bool.false_eq_true, if_false] at hS
      go_enter Tryd.func128, Tryd.ntmps128
      go_wp2_with (go_at_call 127; (with_reducible refine (finite_any v HV.out _).mono ?_); rw [hf]; rintro e w' ⟨rfl, rfl⟩)
      have hol := of_lit m0 ((m0 : Nat) : Int) (w.alloc (.cells #[.bool false, .slice none 0 0, .int .i64 0] 181)) HM (Lib.hid rfl)
      simp only [World.size_alloc] at hol
      (with_reducible refine hol.mono ?_)
      clear hol
      rintro e w2 ⟨A2, k2, c2, rfl, hr2, hv2, ho2⟩
      replace HK := Lib.hid (HK.out.step ho2)
      replace HT := Lib.hid (HT.out.keep ho2)
      have HV2 := Lib.hid hv2
      clear hr2 hv2 ho2
      go_wp2_with fail
      (with_reducible refine (make_w false HV2).mono ?_)
      rintro e w3 ⟨s3, A3, k3, c3, rfl, -, -, hv3, ho3⟩
      replace HK := Lib.hid (HK.out.step ho3)
      replace HT := Lib.hid (HT.out.keep ho3)
      have HV3 := Lib.hid hv3
      clear hv3 ho3
      go_wp2_with fail
      (with_reducible refine (make_d HV3 HB (by omega) (by omega) HT).mono ?_)
      rintro e w4 ⟨s4, A4, k4, c4, rfl, hs4, hk4, hv4, ho4⟩
      replace HK := Lib.hid (HK.out.step ho4)
      have HC : Hid (Cn s4 k4 (nrm (sg false m0) _).z) := ⟨hs4, hk4⟩
      have HV4 := Lib.hid hv4
      obtain ⟨c0, c1', c2', f0, f1, f2⟩ := HK.out.c3 0 rfl
      clear ho4 hs4 hk4 hv4
      rw [HX.out] at HC HV4
      rw [HX.out]
      go_wp2_with fail
      refine bodyPost_ret (v := .tuple #[.agg #[.bool s4, .slice A4 k4 c4, .int .i64 (x.e)], .bool true]) (by simp [results, Tryd.results128, go_sem, c0, c1', c2']) rfl ?_
      exact QDPost.of (dfin HC HV4 (by omega) (HK.out.blk 0 rfl) (noLimb3 _ _ _ _ _) HK.out.only (only_set3 _ _ _ _ _))
    · simp only [if_true] at hS
      go_enter Tryd.func128, Tryd.ntmps128
      go_wp2_with (go_at_call 127; (with_reducible refine (finite_any v HV.out _).mono ?_); rw [hf]; rintro e w' ⟨rfl, rfl⟩)
      have hol := of_lit m0 ((m0 : Nat) : Int) (w.alloc (.cells #[.bool false, .slice none 0 0, .int .i64 0] 181)) HM (Lib.hid rfl)
      simp only [World.size_alloc] at hol
      (with_reducible refine hol.mono ?_)
      clear hol
      rintro e w2 ⟨A2, k2, c2, rfl, hr2, hv2, ho2⟩
      replace HK := Lib.hid (HK.out.step ho2)
      replace HT := Lib.hid (HT.out.keep ho2)
      have HV2 := Lib.hid hv2
      clear hr2 hv2 ho2
      go_wp2_with fail
      (with_reducible refine (make_w true HV2).mono ?_)
      rintro e w3 ⟨s3, A3, k3, c3, rfl, -, -, hv3, ho3⟩
      replace HK := Lib.hid (HK.out.step ho3)
      replace HT := Lib.hid (HT.out.keep ho3)
      have HV3 := Lib.hid hv3
      clear hv3 ho3
      go_wp2_with fail
      (with_reducible refine (make_d HV3 HB (by omega) (by omega) HT).mono ?_)
      rintro e w4 ⟨s4, A4, k4, c4, rfl, hs4, hk4, hv4, ho4⟩
      replace HK := Lib.hid (HK.out.step ho4)
      have HC : Hid (Cn s4 k4 (nrm (sg true m0) _).z) := ⟨hs4, hk4⟩
      have HV4 := Lib.hid hv4
      obtain ⟨c0, c1', c2', f0, f1, f2⟩ := HK.out.c3 0 rfl
      clear ho4 hs4 hk4 hv4
      rw [HX.out] at HC HV4
      rw [HX.out]
      go_wp2_with fail
      refine bodyPost_ret (v := .tuple #[.agg #[.bool s4, .slice A4 k4 c4, .int .i64 (x.e)], .bool true]) (by simp [results, Tryd.results128, go_sem, c0, c1', c2']) rfl ?_
      exact QDPost.of (dfin HC HV4 (by omega) (HK.out.blk 0 rfl) (noLimb3 _ _ _ _ _) HK.out.only (only_set3 _ _ _ _ _))
  · rw [if_neg hz] at hx
    have HX := Lib.hid hx
    have hO' := hO hz
    have hz' : ((e0 : Int) == 0) = false := by rw [beq_eq_false_iff_ne]; omega
    have he' : (e0 : Int) < 2048 := by omega
    have hz2 : ¬ (e0 : Int) = 0 := by omega
    clear hx h0 he hm1 hz hO
    cases s
    · simp only [Bool.false_eq_true, if_false] at hS
      go_enter Tryd.func128, Tryd.ntmps128
      go_wp2_with (go_at_call 127; (with_reducible refine (finite_any v HV.out _).mono ?_); rw [hf]; rintro e w' ⟨rfl, rfl⟩)
      have hol := of_lit m1 ((m1 : Nat) : Int) (w.alloc (.cells #[.bool false, .slice none 0 0, .int .i64 0] 181)) HM (Lib.hid rfl)
      simp only [World.size_alloc] at hol
      (with_reducible refine hol.mono ?_)
      clear hol
      rintro e w2 ⟨A2, k2, c2, rfl, hr2, hv2, ho2⟩
      replace HK := Lib.hid (HK.out.step ho2)
      replace HT := Lib.hid (HT.out.keep ho2)
      have HV2 := Lib.hid hv2
      clear hr2 hv2 ho2
      go_wp2_with fail
      (with_reducible refine (make_w false HV2).mono ?_)
      rintro e w3 ⟨s3, A3, k3, c3, rfl, -, -, hv3, ho3⟩
      replace HK := Lib.hid (HK.out.step ho3)
      replace HT := Lib.hid (HT.out.keep ho3)
      have HV3 := Lib.hid hv3
      clear hv3 ho3
      go_wp2_with fail
      (with_reducible refine (make_d HV3 HB (by omega) (by omega) HT).mono ?_)
      rintro e w4 ⟨s4, A4, k4, c4, rfl, hs4, hk4, hv4, ho4⟩
      replace HK := Lib.hid (HK.out.step ho4)
      have HC : Hid (Cn s4 k4 (nrm (sg false m1) _).z) := ⟨hs4, hk4⟩
      have HV4 := Lib.hid hv4
      obtain ⟨c0, c1', c2', f0, f1, f2⟩ := HK.out.c3 0 rfl
      clear ho4 hs4 hk4 hv4
      rw [HX.out] at HC HV4
      rw [HX.out]
      go_wp2_with fail
      refine bodyPost_ret (v := .tuple #[.agg #[.bool s4, .slice A4 k4 c4, .int .i64 (x.e)], .bool true]) (by simp [results, Tryd.results128, go_sem, c0, c1', c2']) rfl ?_
      exact QDPost.of (dfin HC HV4 (by omega) (HK.out.blk 0 rfl) (noLimb3 _ _ _ _ _) HK.out.only (only_set3 _ _ _ _ _))
    · simp only [if_true] at hS
      go_enter Tryd.func128, Tryd.ntmps128
      go_wp2_with (go_at_call 127; (with_reducible refine (finite_any v HV.out _).mono ?_); rw [hf]; rintro e w' ⟨rfl, rfl⟩)
      have hol := of_lit m1 ((m1 : Nat) : Int) (w.alloc (.cells #[.bool false, .slice none 0 0, .int .i64 0] 181)) HM (Lib.hid rfl)
      simp only [World.size_alloc] at hol
      (with_reducible refine hol.mono ?_)
      clear hol
      rintro e w2 ⟨A2, k2, c2, rfl, hr2, hv2, ho2⟩
      replace HK := Lib.hid (HK.out.step ho2)
      replace HT := Lib.hid (HT.out.keep ho2)
      have HV2 := Lib.hid hv2
      clear hr2 hv2 ho2
      go_wp2_with fail
      (with_reducible refine (make_w true HV2).mono ?_)
      rintro e w3 ⟨s3, A3, k3, c3, rfl, -, -, hv3, ho3⟩
      replace HK := Lib.hid (HK.out.step ho3)
      replace HT := Lib.hid (HT.out.keep ho3)
      have HV3 := Lib.hid hv3
      clear hv3 ho3
      go_wp2_with fail
      (with_reducible refine (make_d HV3 HB (by omega) (by omega) HT).mono ?_)
      rintro e w4 ⟨s4, A4, k4, c4, rfl, hs4, hk4, hv4, ho4⟩
      replace HK := Lib.hid (HK.out.step ho4)
      have HC : Hid (Cn s4 k4 (nrm (sg true m1) _).z) := ⟨hs4, hk4⟩
      have HV4 := Lib.hid hv4
      obtain ⟨c0, c1', c2', f0, f1, f2⟩ := HK.out.c3 0 rfl
      clear ho4 hs4 hk4 hv4
      rw [HX.out] at HC HV4
      rw [HX.out]
      go_wp2_with fail
      refine bodyPost_ret (v := .tuple #[.agg #[.bool s4, .slice A4 k4 c4, .int .i64 (x.e)], .bool true]) (by simp [results, Tryd.results128, go_sem, c0, c1', c2']) rfl ?_
      exact QDPost.of (dfin HC HV4 (by omega) (HK.out.blk 0 rfl) (noLimb3 _ _ _ _ _) HK.out.only (only_set3 _ _ _ _ _))

theorem fl_dyad (s : Bool) {r : Nat} (h : r < INF) (w : World) (hT : Hid (Tab6 w)) : Calls Tryd.prog 128 #[.float .f64 (wordB s r)] w (QDPost (fD s r) true w) := by
  have h2 : r < 9223372036854775808 := by unfold INF at h; omega
  obtain ⟨h1, h3, h4⟩ := word_parts_bits s h2
  refine fl_dyad_core s (wordB s r) (r % 4503599627370496) (r / 4503599627370496) (mantW r) _ w hT (word_lt s h2) (finN s h) h1 h3 h4 (by omega) (fun h0 => ?_) (by have := mant_lt r; omega) (fun h0 => ?_) ?_
  · rw [or_b52 (Nat.mod_lt _ (by omega))]
    unfold mantW
    rw [if_neg (by omega)]
  · unfold mantW
    rw [if_pos (by omega)]
    omega
  · unfold fD expoW
    congr 1
    split <;> omega

end Fl

end Go.Proofs.YtigpnopeacicpaaDoor
