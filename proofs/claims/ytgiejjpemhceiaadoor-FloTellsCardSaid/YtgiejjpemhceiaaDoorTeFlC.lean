/-
  Package flo by value: exact, Float.
-/
import Derived.Test.YtgiejjpemhceiaaDoorTeFlB
namespace Go.Proofs.YtgiejjpemhceiaaDoor
set_option linter.unusedSimpArgs false
open Go.RowKit

namespace Fl
set_option maxHeartbeats 3200000 in
set_option maxRecDepth 100000 in
theorem exact_d {w : World} {a : Value} {r : Dy} (ha : Hid (DV w a r)) (h0 : r.z ≠ 0) (hs : Short 53 r) (he : -1074 ≤ r.e) (ht : topD r ≤ 1024) {u : Nat} (hu : exactW r = u) : Calls Tryd.prog 116 #[a] w fun e w' => e = .returned (.float .f64 u) ∧ Only [] w w' := by
  obtain ⟨s, A, k, c, rfl, hv⟩ := ha.out
  have hsz := sign_dec hv.sign h0
  obtain ⟨m, hm⟩ : ∃ m, r.z.natAbs = m := ⟨_, rfl⟩
  have hm53 : m < 9007199254740992 := by unfold Short at hs; rw [hm] at hs; omega
  have hm0 : m ≠ 0 := by omega
  have hkey : 0 < k ∧ ∃ b o, A = some ⟨b, o, none⟩ ∧ w.cell? ⟨b, o, none⟩ = some (.int .u64 (m : Int)) := by
    obtain ⟨A', c', xs, e, h2, h3, h4, h5⟩ := hv.mag
    injection e with e1 e2 e3
    subst e1 e2 e3
    rw [hm] at h5
    cases xs with
    | nil => simp [val] at h5; omega
    | cons x xs =>
      refine ⟨by simp, ?_⟩
      obtain ⟨b, o, rfl, hc⟩ := h2.read 0 (by simp)
      refine ⟨b, o, rfl, ?_⟩
      rw [Nat.add_zero] at hc
      rw [hc]
      simp only [List.getElem?_cons_zero, Option.getD_some]
      have hx : x = m := by
        simp only [val] at h5
        rcases Nat.eq_zero_or_pos (val xs) with h6 | h6
        · rw [h6] at h5; omega
        · have := Nat.mul_le_mul_left BB h6
          rw [BB_val] at *
          omega
      rw [hx]
  obtain ⟨hk0, b, o, rfl, hl⟩ := hkey
  have hki : (0 : Int) < (k : Int) := by omega
  obtain ⟨bt, hbt⟩ : ∃ bt, bitsN m = bt := ⟨_, rfl⟩
  obtain ⟨t, htt⟩ : ∃ t, topD r = t := ⟨_, rfl⟩
  have htd : t = (bt : Int) + r.e := by rw [← htt, ← hbt, ← hm]; unfold topD; rw [if_neg h0]
  have hb53 : bt ≤ 53 := by rw [← hbt]; exact bitsN_le (show m < 2 ^ 53 by omega)
  obtain ⟨N, hN⟩ : ∃ N : Nat, N = 8000 := ⟨_, rfl⟩
  have HBn : Hid (Bnd N r) := ⟨by rw [hm]; exact Nat.lt_of_lt_of_le (show m < 2 ^ 53 by omega) (two_mono (by omega)), by omega, by omega⟩
  have hN2 : N ≤ 8000 := by omega
  have HSZ := Lib.hid hsz
  have HM := Lib.hid hm
  have H0 := Lib.hid h0
  have het1 : -1074 ≤ r.e := by omega
  have het2 : t ≤ 1024 := by omega
  have HTD := Lib.hid htd
  have hb3 : (bt : Int) ≤ 53 := by omega
  clear htd hb53 hsz hm h0 hs he ht hN
  have HTt := Lib.hid htt
  have HBt := Lib.hid hbt
  have hk := (KB.start w).new 37 [.bool s, .slice (some ⟨b, o, none⟩) k c, .int .i64 r.e]
  have HK := Lib.hid hk
  have HV := Lib.hid (hv.only hk.only)
  have hl0 := hk.only.cell hl (by simp)
  clear hk ha hv hl htt hbt
  have HU := Lib.hid hu
  clear hu
  go_enter Tryd.func116, Tryd.ntmps116
  go_upto_region 1 with fail
  apply wp_region_typed2 (by kernel_rfl) [isV _, isV _, isV _, isV _, isV _, isV _, isV _, isV _, isV _] [[], [0], [1], [2], [3], [], [5], [4], [6]] (by kernel_rfl) (by kernel_rfl)
  case ho =>
    iterate 2
      refine owes2_cons (fun wx hox => ?_) ?_
      · skip
        refine withs_plain rfl ?_
        simp only [withs, List.getElem?_cons_zero, List.getElem?_cons_succ, Option.bind, Option.getD]
        repeat (with_reducible refine all_isV ?_)
        go_simp
        exact ⟨Only.refl _ _, isV.self _ _⟩
    refine owes2_cons (fun wx hox => ?_) ?_
    · skip
      have hk := HK.out.step hox
      obtain ⟨i0, i1, i2, -, -, -⟩ := hk.c3 0 rfl
      have l0 := hox.cell hl0 (by simp)
      refine withs_plain rfl ?_
      simp only [withs, List.getElem?_cons_zero, List.getElem?_cons_succ, Option.bind, Option.getD]
      repeat (with_reducible refine all_isV ?_)
      go_simp
      exact ⟨Only.refl _ _, isV.self _ _⟩
    refine owes2_cons (fun wx hox => ?_) ?_
    · skip
      refine withs_plain rfl ?_
      simp only [withs, List.getElem?_cons_zero, List.getElem?_cons_succ, Option.bind, Option.getD]
      repeat (with_reducible refine all_isV ?_)
      go_simp
      exact ⟨Only.refl _ _, isV.self _ _⟩
    iterate 2
      refine owes2_cons (fun wx hox => ?_) ?_
      · skip
        have hk := HK.out.step hox
        obtain ⟨i0, i1, i2, -, -, -⟩ := hk.c3 0 rfl
        have l0 := hox.cell hl0 (by simp)
        refine withs_plain rfl ?_
        simp only [withs, List.getElem?_cons_zero, List.getElem?_cons_succ, Option.bind, Option.getD]
        repeat (with_reducible refine all_isV ?_)
        go_simp
        exact ⟨Only.refl _ _, isV.self _ _⟩
    refine owes2_cons (fun wx hox => ?_) ?_
    · skip
      have hk := HK.out.step hox
      obtain ⟨i0, i1, i2, -, -, -⟩ := hk.c3 0 rfl
      have l0 := hox.cell hl0 (by simp)
      refine withs_plain rfl ?_
      simp only [withs, List.getElem?_cons_zero, List.getElem?_cons_succ, Option.bind, Option.getD]
      repeat (with_reducible refine all_isV ?_)
      go_simp
      (with_reducible exact grow_of (topV_d t (DV.of (Lib.hid (HV.out.only hox))) HBn (by omega) HTt.out))
    iterate 2
      refine owes2_cons (fun wx hox => ?_) ?_
      · skip
        refine withs_plain rfl ?_
        simp only [withs, List.getElem?_cons_zero, List.getElem?_cons_succ, Option.bind, Option.getD]
        repeat (with_reducible refine all_isV ?_)
        go_simp
        exact ⟨Only.refl _ _, isV.self _ _⟩
    exact owes2_nil
  case he =>
    intro wx hox
    refine withs_of (by simp only [List.length, List.range, List.range.loop]; exact rfl) ?_
    simp only [withs, List.getElem?_cons_zero, List.getElem?_cons_succ, Option.bind, Option.getD]
    repeat (with_reducible refine all_isV ?_)
    go_simp
    have HK2 := Lib.hid (HK.out.step hox)
    have l0 := hox.cell hl0 (by simp)
    have HV2 := Lib.hid (HV.out.only hox)
    obtain ⟨i0, i1, i2, -, -, -⟩ := HK2.out.c3 0 rfl
    clear hox HK HV
    by_cases hn : -1021 ≤ t
    · obtain ⟨d, hd⟩ : ∃ d : Nat, 53 - bt = d := ⟨_, rfl⟩
      have hd1 : (53 : Int) - (bt : Int) = (d : Int) := by omega
      obtain ⟨T, hT⟩ : ∃ T : Nat, (t + 1022).toNat = T := ⟨_, rfl⟩
      have hT1 : t + 1021 + 1 = (T : Int) := by omega
      have hT3 : (T : Int) ≤ 2046 := by omega
      obtain ⟨m1, hm1⟩ : ∃ m1, m * 2 ^ d = m1 := ⟨_, rfl⟩
      have hm2 : m1 < 9007199254740992 := by
        rw [← hm1]
        have h1 : m < 2 ^ bt := by rw [← HBt.out]; exact bitsN_lt m
        have h2 : m * 2 ^ d < 2 ^ bt * 2 ^ d := Nat.mul_lt_mul_of_pos_right h1 (Nat.pow_pos (by omega))
        rw [← Nat.pow_add, show bt + d = 53 by omega] at h2
        omega
      have hw1 : IntKind.u64.wrap ((m : Int) * 2 ^ d) = (m1 : Int) := by
        rw [show (m : Int) * 2 ^ d = ((m * 2 ^ d : Nat) : Int) by push_cast; rfl, hm1, IntKind.wrap_u64]
        omega
      have hw2 : IntKind.u64.wrap ((T : Int) * 4503599627370496) = ((T * 4503599627370496 : Nat) : Int) := by
        rw [IntKind.wrap_u64]
        omega
      obtain ⟨m2, hm3⟩ : ∃ m2, m1 % 4503599627370496 = m2 := ⟨_, rfl⟩
      have hw3 : bits .and .u64 (m1 : Int) 4503599627370495 = (m2 : Int) := by
        have h1 := bits_and_u64_nat m1 4503599627370495 (by omega) (by omega)
        rw [show (4503599627370495 : Int) = ((4503599627370495 : Nat) : Int) from rfl, h1, show (4503599627370495 : Nat) = 2 ^ 52 - 1 by decide, Nat.and_two_pow_sub_one_eq_mod]
        omega
      obtain ⟨ρ, hρ⟩ : ∃ ρ, T * 4503599627370496 + m2 = ρ := ⟨_, rfl⟩
      have hw4 : bits .or .u64 ((T * 4503599627370496 : Nat) : Int) (m2 : Int) = (ρ : Int) := by
        have h1 := bits_or_u64_nat (T * 4503599627370496) m2 (by omega) (by omega)
        rw [h1, ← hρ, Nat.mul_comm T, show (4503599627370496 : Nat) = 2 ^ 52 by decide, Nat.two_pow_add_eq_or_of_lt (by omega)]
      have HR : Hid (exactW r = wordB (decide (r.z < 0)) ρ) := by
        show _ = _
        unfold exactW
        rw [HTt.out, HM.out, HBt.out, if_pos hn, hT, hd, hm1, hm3, hρ]
      have hρ2 : ρ < 9223372036854775808 := by omega
      generalize hTT : T * 4503599627370496 = TT at *
      clear hd hm1 hm2 hm3 hρ hT
      have HN := Lib.hid (HV2.out.mag)
      rw [HM.out] at HN
      go_wp2_with fail
      have hbv := bits_v HN
      rw [HBt.out] at hbv
      (with_reducible refine hbv.mono ?_)
      rintro e w4 ⟨rfl, rfl⟩
      clear hbv
      have hor : bits .or .u64 (ρ : Int) 9223372036854775808 = ((9223372036854775808 + ρ : Nat) : Int) := by
        have h1 := bits_or_u64_nat ρ 9223372036854775808 (by omega) (by omega)
        rw [show (9223372036854775808 : Int) = ((9223372036854775808 : Nat) : Int) from rfl, h1, Nat.or_comm, show (9223372036854775808 : Nat) = 2 ^ 63 * 1 by decide, Nat.two_pow_add_eq_or_of_lt (by omega), Nat.mul_one]
      have hbr := frombits_run
      obtain ⟨ρ3, hρ3⟩ : ∃ ρ3, 9223372036854775808 + ρ = ρ3 := ⟨_, rfl⟩
      rw [hρ3] at hor
      have H3 := Lib.hid hρ3
      clear hρ2 hρ3
      cases s
      all_goals
        go_wp2_with fail
        go_ret
        exact ⟨by rw [← HU.out, HR.out, ← HSZ.out]; first | rfl | (rw [← H3.out]; rfl), HK2.out.only⟩
    · obtain ⟨d, hd⟩ : ∃ d : Nat, (r.e + 1074).toNat = d := ⟨_, rfl⟩
      have hd1 : r.e + 1074 = (d : Int) := by omega
      have hd3 : (d : Int) ≤ 53 := by have := HTD.out; omega
      obtain ⟨ρ, hρ⟩ : ∃ ρ, m * 2 ^ d = ρ := ⟨_, rfl⟩
      have hm2 : ρ < 9007199254740992 := by
        rw [← hρ]
        have h1 : m < 2 ^ bt := by rw [← HBt.out]; exact bitsN_lt m
        have h2 : m * 2 ^ d < 2 ^ bt * 2 ^ d := Nat.mul_lt_mul_of_pos_right h1 (Nat.pow_pos (by omega))
        rw [← Nat.pow_add] at h2
        have h3 : 2 ^ (bt + d) ≤ 2 ^ 53 := two_mono (by have := HTD.out; omega)
        omega
      have hw1 : IntKind.u64.wrap ((m : Int) * 2 ^ d) = (ρ : Int) := by
        rw [show (m : Int) * 2 ^ d = ((m * 2 ^ d : Nat) : Int) by push_cast; rfl, hρ, IntKind.wrap_u64]
        omega
      have HR : Hid (exactW r = wordB (decide (r.z < 0)) ρ) := by
        show _ = _
        unfold exactW
        rw [HTt.out, HM.out, if_neg hn, hd, hρ]
      have hρ2 : ρ < 9223372036854775808 := by omega
      clear hd hρ hm2
      have hor : bits .or .u64 (ρ : Int) 9223372036854775808 = ((9223372036854775808 + ρ : Nat) : Int) := by
        have h1 := bits_or_u64_nat ρ 9223372036854775808 (by omega) (by omega)
        rw [show (9223372036854775808 : Int) = ((9223372036854775808 : Nat) : Int) from rfl, h1, Nat.or_comm, show (9223372036854775808 : Nat) = 2 ^ 63 * 1 by decide, Nat.two_pow_add_eq_or_of_lt (by omega), Nat.mul_one]
      have hbr := frombits_run
      obtain ⟨ρ3, hρ3⟩ : ∃ ρ3, 9223372036854775808 + ρ = ρ3 := ⟨_, rfl⟩
      rw [hρ3] at hor
      have H3 := Lib.hid hρ3
      clear hρ2 hρ3
      cases s
      all_goals
        go_wp2_with fail
        go_ret
        exact ⟨by rw [← HU.out, HR.out, ← HSZ.out]; first | rfl | (rw [← H3.out]; rfl), HK2.out.only⟩
  case hl =>
    repeat (refine List.forall_mem_cons.2 ⟨?_, ?_⟩; exact isV.lasts _)
    exact fun _ h => (by cases h)

theorem sgn_of {z : Int} (h : z ≠ 0) : z.sign = (if z < 0 then -1 else 1) ∧ ((if z < 0 then -1 else 1 : Int) = 1 ∨ (if z < 0 then -1 else 1 : Int) = -1) ∧ decide ((if z < 0 then -1 else 1 : Int) < 0) = decide (z < 0) := by
  by_cases h0 : z < 0
  · rw [if_pos h0]
    exact ⟨Int.sign_eq_neg_one_of_neg h0, .inr rfl, by simp [h0]⟩
  · rw [if_neg h0]
    exact ⟨Int.sign_eq_one_of_pos (by omega), .inl rfl, by simp [h0]⟩
set_option maxHeartbeats 3200000 in
set_option maxRecDepth 100000 in
theorem float_d {w : World} {a : Value} {x : Dy} {N : Nat} (dir : Int) (u : Nat) (hu : flW (decide (0 ≤ dir)) x = u) (ha : Hid (DV w a x)) (hx : Hid (Bnd N x)) (hN : N ≤ 1000000) (hT : Hid (Tab6 w)) : Calls Tryd.prog 50 #[a, .int .i64 dir] w fun e w' => e = .returned (.float .f64 u) ∧ Only [] w w' := by
  obtain ⟨s, A, k, c, rfl, hv⟩ := ha.out
  have hrng := top_range hx.out (by omega)
  obtain ⟨t, htt⟩ : ∃ t, topD x = t := ⟨_, rfl⟩
  have HTt := Lib.hid htt
  rw [htt] at hrng
  have HE := Lib.hid ((DB.start w).new hv)
  have HU := Lib.hid hu
  clear ha hv hu
  unfold flW at HU
  rw [htt] at HU
  by_cases hz : x.z = 0
  · have HS : Hid (x.z.sign = 0) := by show _ = _; rw [hz]; rfl
    rw [if_pos hz] at HU
    clear hz htt
    go_enter Tryd.func50, Tryd.ntmps50
    obtain ⟨i0, i1, i2, -, -, -⟩ := DB.cells HE 0 rfl
    go_wp2_with fail
    (with_reducible refine (topV_d t (DB.dv HE 0 rfl) hx (by omega) HTt.out).mono ?_)
    rintro e w1 ⟨rfl, ho⟩
    replace HE := Lib.hid (HE.out.step ho)
    clear ho i0 i1 i2
    obtain ⟨i0, i1, i2, -, -, -⟩ := DB.cells HE 0 rfl
    go_wp2_with fail
    (with_reducible refine (signV_d 0 (DB.dv HE 0 rfl) (by first | exact HS.out | exact HSr.out)).mono ?_)
    rintro e w1 ⟨rfl, ho⟩
    replace HE := Lib.hid (HE.out.step ho)
    clear ho i0 i1 i2
    go_wp2_with fail
    go_ret
    exact ⟨by rw [← HU.out]; rfl, HE.out.only⟩
  · rw [if_neg hz] at HU
    obtain ⟨p1, p2_, p3⟩ := sgn_of hz
    obtain ⟨p, hp⟩ : ∃ p, (if x.z < 0 then -1 else 1 : Int) = p := ⟨_, rfl⟩
    rw [hp] at p1 p2_ p3
    have HS := Lib.hid p1
    have hp0 : (p == 0) = false := by rw [beq_eq_false_iff_ne]; rcases p2_ with h | h <;> rw [h] <;> decide
    have HP := Lib.hid p2_
    rw [← p3] at HU
    have hnz := Lib.hid hz
    clear hp p1 p2_ hz
    by_cases h1 : 1024 < t
    · rw [if_pos h1] at HU
      clear p3 htt
      go_enter Tryd.func50, Tryd.ntmps50
      obtain ⟨i0, i1, i2, -, -, -⟩ := DB.cells HE 0 rfl
      go_wp2_with fail
      (with_reducible refine (topV_d t (DB.dv HE 0 rfl) hx (by omega) HTt.out).mono ?_)
      rintro e w1 ⟨rfl, ho⟩
      replace HE := Lib.hid (HE.out.step ho)
      clear ho i0 i1 i2
      obtain ⟨i0, i1, i2, -, -, -⟩ := DB.cells HE 0 rfl
      go_wp2_with fail
      (with_reducible refine (signV_d p (DB.dv HE 0 rfl) (by first | exact HS.out | exact HSr.out)).mono ?_)
      rintro e w1 ⟨rfl, ho⟩
      replace HE := Lib.hid (HE.out.step ho)
      clear ho i0 i1 i2
      obtain ⟨i0, i1, i2, -, -, -⟩ := DB.cells HE 0 rfl
      go_wp2_with fail
      (with_reducible refine (signV_d p (DB.dv HE 0 rfl) (by first | exact HS.out | exact HSr.out)).mono ?_)
      rintro e w1 ⟨rfl, ho⟩
      replace HE := Lib.hid (HE.out.step ho)
      clear ho i0 i1 i2
      go_wp2_with fail
      (with_reducible refine (beyond_any p dir u _ HP.out HU.out).mono ?_)
      rintro e w2 ⟨rfl, rfl⟩
      go_wp2_with fail
      go_ret
      exact ⟨rfl, HE.out.only⟩
    · rw [if_neg h1] at HU
      by_cases h2 : t ≤ -1074
      · rw [if_pos h2] at HU
        clear p3 htt
        go_enter Tryd.func50, Tryd.ntmps50
        obtain ⟨i0, i1, i2, -, -, -⟩ := DB.cells HE 0 rfl
        go_wp2_with fail
        (with_reducible refine (topV_d t (DB.dv HE 0 rfl) hx (by omega) HTt.out).mono ?_)
        rintro e w1 ⟨rfl, ho⟩
        replace HE := Lib.hid (HE.out.step ho)
        clear ho i0 i1 i2
        obtain ⟨i0, i1, i2, -, -, -⟩ := DB.cells HE 0 rfl
        go_wp2_with fail
        (with_reducible refine (signV_d p (DB.dv HE 0 rfl) (by first | exact HS.out | exact HSr.out)).mono ?_)
        rintro e w1 ⟨rfl, ho⟩
        replace HE := Lib.hid (HE.out.step ho)
        clear ho i0 i1 i2
        obtain ⟨i0, i1, i2, -, -, -⟩ := DB.cells HE 0 rfl
        go_wp2_with fail
        (with_reducible refine (signV_d p (DB.dv HE 0 rfl) (by first | exact HS.out | exact HSr.out)).mono ?_)
        rintro e w1 ⟨rfl, ho⟩
        replace HE := Lib.hid (HE.out.step ho)
        clear ho i0 i1 i2
        go_wp2_with fail
        (with_reducible refine (within_any p dir u _ HP.out HU.out).mono ?_)
        rintro e w2 ⟨rfl, rfl⟩
        go_wp2_with fail
        go_ret
        exact ⟨rfl, HE.out.only⟩
      · rw [if_neg h2] at HU
        obtain ⟨P, hP⟩ : ∃ P : Int, min 53 (t + 1074) = P := ⟨_, rfl⟩
        obtain ⟨r, hr⟩ : ∃ r, rndD (widthP P) (decide (0 ≤ dir)) x = r := ⟨_, rfl⟩
        have hPr : 1 ≤ P ∧ P ≤ 53 := by omega
        rw [hP, hr] at HU
        have hw : widthP P = (min 53 (topD x + 1074)).toNat := by rw [htt, hP]; unfold widthP; omega
        have hrd := rnd_rd (min 53 (topD x + 1074)).toNat (decide (0 ≤ dir)) x (by omega)
        rw [← hw, hr, hw] at hrd
        obtain ⟨f, ex, hb⟩ := beside x hnz.out
        obtain ⟨m1, m2, m3, m4, -⟩ := mid_spec hnz.out (by omega) hrd hb
        have BR : Hid (Bnd (3 * N + 54) r) := by rw [← hr]; exact rnd_bnd hx.out (by rw [hw]; omega)
        have HR := Lib.hid hr
        have HSr : Hid (r.z.sign = p) := by
          show _ = _
          have h3 := sgn_of m1
          have h4 := HS.out
          have h5 := sgn_of hnz.out
          rw [h3.1, ← h4, h5.1]
          have h6 : (r.z < 0) ↔ (x.z < 0) := by simpa using m2
          by_cases h7 : x.z < 0
          · rw [if_pos h7, if_pos (h6.2 h7)]
          · rw [if_neg h7, if_neg (fun hc => h7 (h6.1 hc))]
        rw [m2, ← p3] at HU
        obtain ⟨tr, htr⟩ : ∃ tr, topD r = tr := ⟨_, rfl⟩
        have HTr := Lib.hid htr
        have HM := Lib.hid (And.intro m1 (And.intro m3 m4))
        clear hrd hb m1 m2 m3 m4 hw hr f ex
        by_cases h3 : 1024 < tr
        · rw [htr, if_pos h3] at HU
          clear htr p3 htt
          go_enter Tryd.func50, Tryd.ntmps50
          obtain ⟨i0, i1, i2, -, -, -⟩ := DB.cells HE 0 rfl
          go_wp2_with fail
          (with_reducible refine (topV_d t (DB.dv HE 0 rfl) hx (by omega) HTt.out).mono ?_)
          rintro e w1 ⟨rfl, ho⟩
          replace HE := Lib.hid (HE.out.step ho)
          clear ho i0 i1 i2
          obtain ⟨i0, i1, i2, -, -, -⟩ := DB.cells HE 0 rfl
          go_wp2_with fail
          (with_reducible refine (signV_d p (DB.dv HE 0 rfl) (by first | exact HS.out | exact HSr.out)).mono ?_)
          rintro e w1 ⟨rfl, ho⟩
          replace HE := Lib.hid (HE.out.step ho)
          clear ho i0 i1 i2
          obtain ⟨i0, i1, i2, -, -, -⟩ := DB.cells HE 0 rfl
          go_wp2_with fail
          (with_reducible refine (roundV_d P dir r HR.out (DB.dv HE 0 rfl) hx hN (Lib.hid (hT.out.keep HE.out.only))).mono ?_)
          rintro e w2 ⟨s2, A2, k2, c2, rfl, -, -, hv2, ho⟩
          replace HE := Lib.hid ((HE.out.step ho).new hv2)
          clear ho hv2 i0 i1 i2
          obtain ⟨i0, i1, i2, -, -, -⟩ := DB.cells HE 0 rfl
          go_wp2_with fail
          (with_reducible refine (topV_d tr (DB.dv HE 0 rfl) BR (by omega) HTr.out).mono ?_)
          rintro e w3 ⟨rfl, ho⟩
          replace HE := Lib.hid (HE.out.step ho)
          clear ho i0 i1 i2
          obtain ⟨i0, i1, i2, -, -, -⟩ := DB.cells HE 0 rfl
          go_wp2_with fail
          (with_reducible refine (signV_d p (DB.dv HE 0 rfl) (by first | exact HS.out | exact HSr.out)).mono ?_)
          rintro e w1 ⟨rfl, ho⟩
          replace HE := Lib.hid (HE.out.step ho)
          clear ho i0 i1 i2
          go_wp2_with fail
          (with_reducible refine (beyond_any p dir u _ HP.out HU.out).mono ?_)
          rintro e w2 ⟨rfl, rfl⟩
          go_wp2_with fail
          go_ret
          exact ⟨rfl, HE.out.only⟩
        · rw [htr, if_neg h3] at HU
          have HT3 : Hid (topD r ≤ 1024) := by show _ ≤ _; omega
          clear htr p3 htt
          go_enter Tryd.func50, Tryd.ntmps50
          obtain ⟨i0, i1, i2, -, -, -⟩ := DB.cells HE 0 rfl
          go_wp2_with fail
          (with_reducible refine (topV_d t (DB.dv HE 0 rfl) hx (by omega) HTt.out).mono ?_)
          rintro e w1 ⟨rfl, ho⟩
          replace HE := Lib.hid (HE.out.step ho)
          clear ho i0 i1 i2
          obtain ⟨i0, i1, i2, -, -, -⟩ := DB.cells HE 0 rfl
          go_wp2_with fail
          (with_reducible refine (signV_d p (DB.dv HE 0 rfl) (by first | exact HS.out | exact HSr.out)).mono ?_)
          rintro e w1 ⟨rfl, ho⟩
          replace HE := Lib.hid (HE.out.step ho)
          clear ho i0 i1 i2
          obtain ⟨i0, i1, i2, -, -, -⟩ := DB.cells HE 0 rfl
          go_wp2_with fail
          (with_reducible refine (roundV_d P dir r HR.out (DB.dv HE 0 rfl) hx hN (Lib.hid (hT.out.keep HE.out.only))).mono ?_)
          rintro e w2 ⟨s2, A2, k2, c2, rfl, -, -, hv2, ho⟩
          replace HE := Lib.hid ((HE.out.step ho).new hv2)
          clear ho hv2 i0 i1 i2
          obtain ⟨i0, i1, i2, -, -, -⟩ := DB.cells HE 0 rfl
          go_wp2_with fail
          (with_reducible refine (topV_d tr (DB.dv HE 0 rfl) BR (by omega) HTr.out).mono ?_)
          rintro e w3 ⟨rfl, ho⟩
          replace HE := Lib.hid (HE.out.step ho)
          clear ho i0 i1 i2
          obtain ⟨i0, i1, i2, -, -, -⟩ := DB.cells HE 0 rfl
          go_wp2_with fail
          (with_reducible refine (exact_d (DB.dv HE 0 rfl) HM.out.1 HM.out.2.1 HM.out.2.2 HT3.out (u := u) HU.out).mono ?_)
          rintro e w2 ⟨rfl, ho⟩
          replace HE := Lib.hid (HE.out.step ho)
          clear ho i0 i1 i2
          go_wp2_with fail
          go_ret
          exact ⟨rfl, HE.out.only⟩

end Fl
end Go.Proofs.YtgiejjpemhceiaaDoor
