/-
  The reference's dyad of a float: compassref1.Of, Finite.
-/
import Derived.Test.YtigpnopeacicpaaDoorTbJ19
import Derived.Test.YtigpnopeacicpaaDoorTbJ8
namespace Go.Proofs.YtigpnopeacicpaaDoor
set_option linter.unusedSimpArgs false
open Go.RowKit

namespace Fl

set_option maxHeartbeats 1600000 in
set_option maxRecDepth 100000 in
theorem rof_core (s : Bool) (v m0 e0 m1 : Nat) (x : Dy) (w : World) (hv : (v : Int).tmod 4503599627370496 = (m0 : Int)) (hE : ((v : Int) / 4503599627370496).tmod 2048 = (e0 : Int)) (hE' : (v : Int) / 4503599627370496 % 2048 = (e0 : Int)) (tp : Int) (hS : (v : Int) / 9223372036854775808 = tp) (hS2 : (tp == 1) = s) (he : (e0 : Int) < 2048)
    (hO : e0 ≠ 0 → (m0 : Int) + 4503599627370496 = (m1 : Int)) (hm1 : m1 < 9007199254740992) (h0 : e0 = 0 → m0 = m1) (hx : nrm (sg s m1) ((if e0 = 0 then 1 else (e0 : Int)) - 1075) = x) : Calls Tryd.prog 94 #[.float .f64 v] w (RDP x w) := by
  have HK := Lib.hid ((KB.start w).new 47 [.bool false, .slice none 0 0, .int .i64 0])
  have HM : Hid (m1 < BB) := by show _ < _; rw [BB_val]; omega
  have HF : Hid (Few m1) := few_small HM.out
  have hbr := bits_run v
  by_cases hz : e0 = 0
  · subst hz
    have h01 := h0 rfl
    subst h01
    rw [if_pos rfl] at hx
    have HX : Hid (nrm (sg s m0) (-1074) = x) := hx
    clear hx h0 hO he hm1
    cases s
    · skip
      go_enter Tryd.func94, Tryd.ntmps94
      go_wp2_with fail
      (with_reducible refine (rsmall_any m0 _ HM).mono ?_)
      rintro e w1 ⟨A1, k1, c1, rfl, hv1, -, ho1⟩
      have HV1 := Lib.hid hv1
      replace HK := Lib.hid (HK.out.step ho1)
      clear hv1 ho1
      go_wp2_with fail
      (with_reducible refine (rmake_d false (-1074) HV1 HF (by omega) (by omega) HX.out).mono ?_)
      rintro e1 w2 ⟨s1, A1, k1, c1, rfl, hc, hv, ho⟩
      have hk := HK.out.step ho
      obtain ⟨q0, q1, q2, f0, f1, f2⟩ := hk.c3 0 rfl
      have HB := Lib.hid (hk.blk 0 rfl)
      have HO := Lib.hid hk.only
      have HV2 := Lib.hid hv
      have HC1 := Lib.hid hc
      clear hk ho hv hc HK HX
      go_wp2_with fail
      refine bodyPost_ret (v := .agg #[.bool s1, .slice A1 k1 c1, .int .i64 (x.e)]) (by simp [results, Tryd.results94, go_sem, q0, q1, q2]) rfl ?_
      exact rdfin HV2 HC1 (Nat.le_refl _) HB.out (noLimb3 _ _ _ _ _) HO.out (only_set3 _ _ _ _ _)
    · skip
      go_enter Tryd.func94, Tryd.ntmps94
      go_wp2_with fail
      (with_reducible refine (rsmall_any m0 _ HM).mono ?_)
      rintro e w1 ⟨A1, k1, c1, rfl, hv1, -, ho1⟩
      have HV1 := Lib.hid hv1
      replace HK := Lib.hid (HK.out.step ho1)
      clear hv1 ho1
      go_wp2_with fail
      (with_reducible refine (rmake_d true (-1074) HV1 HF (by omega) (by omega) HX.out).mono ?_)
      rintro e1 w2 ⟨s1, A1, k1, c1, rfl, hc, hv, ho⟩
      have hk := HK.out.step ho
      obtain ⟨q0, q1, q2, f0, f1, f2⟩ := hk.c3 0 rfl
      have HB := Lib.hid (hk.blk 0 rfl)
      have HO := Lib.hid hk.only
      have HV2 := Lib.hid hv
      have HC1 := Lib.hid hc
      clear hk ho hv hc HK HX
      go_wp2_with fail
      refine bodyPost_ret (v := .agg #[.bool s1, .slice A1 k1 c1, .int .i64 (x.e)]) (by simp [results, Tryd.results94, go_sem, q0, q1, q2]) rfl ?_
      exact rdfin HV2 HC1 (Nat.le_refl _) HB.out (noLimb3 _ _ _ _ _) HO.out (only_set3 _ _ _ _ _)
  · rw [if_neg hz] at hx
    have HX := Lib.hid hx
    have hO' : IntKind.u64.wrap ((m0 : Int) + 4503599627370496) = (m1 : Int) := by rw [hO hz, IntKind.wrap_u64]; omega
    have hz' : (0 : Int) < (e0 : Int) := by omega
    clear hx h0 hm1 hz hO
    cases s
    · skip
      go_enter Tryd.func94, Tryd.ntmps94
      go_wp2_with fail
      (with_reducible refine (rsmall_any m1 _ HM).mono ?_)
      rintro e w1 ⟨A1, k1, c1, rfl, hv1, -, ho1⟩
      have HV1 := Lib.hid hv1
      replace HK := Lib.hid (HK.out.step ho1)
      clear hv1 ho1
      go_wp2_with fail
      (with_reducible refine (rmake_d false ((e0 : Int) - 1075) HV1 HF (by omega) (by omega) HX.out).mono ?_)
      rintro e1 w2 ⟨s1, A1, k1, c1, rfl, hc, hv, ho⟩
      have hk := HK.out.step ho
      obtain ⟨q0, q1, q2, f0, f1, f2⟩ := hk.c3 0 rfl
      have HB := Lib.hid (hk.blk 0 rfl)
      have HO := Lib.hid hk.only
      have HV2 := Lib.hid hv
      have HC1 := Lib.hid hc
      clear hk ho hv hc HK HX
      go_wp2_with fail
      refine bodyPost_ret (v := .agg #[.bool s1, .slice A1 k1 c1, .int .i64 (x.e)]) (by simp [results, Tryd.results94, go_sem, q0, q1, q2]) rfl ?_
      exact rdfin HV2 HC1 (Nat.le_refl _) HB.out (noLimb3 _ _ _ _ _) HO.out (only_set3 _ _ _ _ _)
    · skip
      go_enter Tryd.func94, Tryd.ntmps94
      go_wp2_with fail
      (with_reducible refine (rsmall_any m1 _ HM).mono ?_)
      rintro e w1 ⟨A1, k1, c1, rfl, hv1, -, ho1⟩
      have HV1 := Lib.hid hv1
      replace HK := Lib.hid (HK.out.step ho1)
      clear hv1 ho1
      go_wp2_with fail
      (with_reducible refine (rmake_d true ((e0 : Int) - 1075) HV1 HF (by omega) (by omega) HX.out).mono ?_)
      rintro e1 w2 ⟨s1, A1, k1, c1, rfl, hc, hv, ho⟩
      have hk := HK.out.step ho
      obtain ⟨q0, q1, q2, f0, f1, f2⟩ := hk.c3 0 rfl
      have HB := Lib.hid (hk.blk 0 rfl)
      have HO := Lib.hid hk.only
      have HV2 := Lib.hid hv
      have HC1 := Lib.hid hc
      clear hk ho hv hc HK HX
      go_wp2_with fail
      refine bodyPost_ret (v := .agg #[.bool s1, .slice A1 k1 c1, .int .i64 (x.e)]) (by simp [results, Tryd.results94, go_sem, q0, q1, q2]) rfl ?_
      exact rdfin HV2 HC1 (Nat.le_refl _) HB.out (noLimb3 _ _ _ _ _) HO.out (only_set3 _ _ _ _ _)

theorem rof_d (s : Bool) {r : Nat} (h : r < INF) (w : World) : Calls Tryd.prog 94 #[.float .f64 (wordB s r)] w (RDP (fD s r) w) := by
  have h2 : r < 9223372036854775808 := by unfold INF at h; omega
  have h3 : r < 9218868437227405312 := h
  have hw : (wordB s r : Int) = (if s then 9223372036854775808 else 0) + (r : Int) := by cases s <;> simp [wordB]
  have e1 : (wordB s r : Int) % 4503599627370496 = ((r % 4503599627370496 : Nat) : Int) := by rw [hw]; cases s <;> simp <;> omega
  have e2 : (wordB s r : Int) / 4503599627370496 % 2048 = ((r / 4503599627370496 : Nat) : Int) := by rw [hw]; cases s <;> simp <;> omega
  have e3 : (wordB s r : Int) / 9223372036854775808 = (if s then 1 else 0) := by rw [hw]; cases s <;> simp <;> omega
  refine rof_core s (wordB s r) (r % 4503599627370496) (r / 4503599627370496) (mantW r) _ w (by rw [Int.tmod_eq_emod_of_nonneg (by omega)]; exact e1) (by rw [Int.tmod_eq_emod_of_nonneg (by omega)]; exact e2) e2 _ e3 (by cases s <;> rfl) (by omega) (fun h0 => ?_) (mant_lt r) (fun h0 => ?_) ?_
  · unfold mantW
    rw [if_neg (by omega)]
    omega
  · unfold mantW
    rw [if_pos (by omega)]
    omega
  · unfold fD expoW
    congr 1
    split <;> omega

theorem rofV (v : Nat) (s : Bool) {r : Nat} (x : Dy) (h : r < INF) (hv : wordB s r = v) (hx : fD s r = x) (w : World) : Calls Tryd.prog 94 #[.float .f64 v] w (RDP x w) := by
  subst hv hx
  exact rof_d s h w

end Fl

end Go.Proofs.YtigpnopeacicpaaDoor
