/-
  NatPowers: the law's walk.
-/
import Derived.Test.YtcmimpooknbopaaDoorEnv
import Derived.Test.YtcmimpooknbopaaDoorAlive1
import Derived.Test.YtcmimpooknbopaaDoorPars
import Derived.Test.YtcmimpooknbopaaDoorDivides
namespace Go.Proofs.YtcmimpooknbopaaDoor
open Go.RowKit

theorem Tab6.only {w w' : World} (h : Tab6 w) (ho : Only [] w w') : Tab6 w' := by
  unfold Tab6 at *
  exact tabis_only h ho
theorem dval_dec (n : Nat) : dval (Lib.decDigits n) = n := by
  induction n using Nat.strongRecOn with
  | ind n ih =>
    by_cases h : n < 10
    · rw [dec_small h]
      simp [dval]
      rw [Nat.mod_eq_of_lt (by omega)]
      omega
    · rw [dec_step h, dval_snoc, ih (n / 10) (by omega)]
      have : (UInt8.ofNat (48 + n % 10)).toNat = 48 + n % 10 := by simp; omega
      rw [this]
      omega
theorem dig_of {d : Nat} (h : d < 10) : isDig (UInt8.ofNat (48 + d)) = true := by
  rw [isDig_iff]
  have : (UInt8.ofNat (48 + d)).toNat = 48 + d := by simp; omega
  omega
theorem dig_dec (n : Nat) : (Lib.decDigits n).all isDig = true := by
  induction n using Nat.strongRecOn with
  | ind n ih =>
    by_cases h : n < 10
    · rw [dec_small h, List.all_cons, dig_of h]
      rfl
    · rw [dec_step h, List.all_append, ih (n / 10) (by omega), List.all_cons, dig_of (Nat.mod_lt _ (by omega))]
      rfl
theorem dec_len_le : ∀ (k n : Nat), n < 10 ^ (k + 1) → (Lib.decDigits n).length ≤ k + 1
  | 0, n, h => by rw [dec_small (by simpa using h)]; simp
  | k + 1, n, h => by
    by_cases hs : n < 10
    · rw [dec_small hs]; simp
    · rw [Nat.pow_succ] at h
      have := dec_len_le k (n / 10) (by omega)
      rw [dec_step hs]
      simp
      omega
theorem dec_len {n k : Nat} (h : Lim n k) (hk : k ≤ 1000) : (Lib.decDigits n).length ≤ 20000 := by
  have h1 : BB ≤ 10 ^ 20 := by rw [BB_val]; decide
  have h2 : n < 10 ^ (20 * k) := by
    rw [Nat.pow_mul]
    exact Nat.lt_of_lt_of_le h (Nat.pow_le_pow_left h1 k)
  have h3 : n < 10 ^ (20 * k + 1) := Nat.lt_of_lt_of_le h2 (Nat.pow_le_pow_right (by omega) (by omega))
  have := dec_len_le _ _ h3
  by_cases h0 : k = 0
  · subst h0; omega
  · have h4 := dec_len_le (20 * k - 1) n (by rw [show 20 * k - 1 + 1 = 20 * k by omega]; exact h2)
    omega
theorem parse_dec {n k : Nat} (h : Lim n k) (hk : k ≤ 1000) : parseN (Lib.decDigits n) = some n := by
  rw [parse_some _ (dec_len h hk) (dig_dec n), dval_dec]
  have := Lib.nDigits_pos n
  rw [Lib.decDigits_length]
  omega
/-- Parse of a number's digits. -/
theorem parse_dec_v {w : World} (n k : Nat) (h : Hid (Lim n k)) (hk : k ≤ 1000) : Calls Tryd.prog 27 #[.string ⟨(Lib.decDigits n).toArray⟩] w fun e w' => ∃ A k c, e = .returned (.tuple #[.slice A k c, .bool true]) ∧ Res w w' (.slice A k c) n ∧ NV w' (.slice A k c) n ∧ Only [] w w' := by
  have hl := dec_len h.out hk
  refine (parse_any ⟨(Lib.decDigits n).toArray⟩ w (by rw [size_mk]; unfold maxLen; omega)).mono ?_
  rintro e w' (⟨h1, _⟩ | ⟨m, A, k, c, _, rfl, h1, rfl, h2, h3, h4⟩)
  · rw [show (⟨(Lib.decDigits n).toArray⟩ : ByteArray).data.toList = Lib.decDigits n by simp, parse_dec h.out hk] at h1
    cases h1
  · rw [show (⟨(Lib.decDigits n).toArray⟩ : ByteArray).data.toList = Lib.decDigits n by simp, parse_dec h.out hk] at h1
    injection h1 with h1
    subst h1
    exact ⟨A, k, c, rfl, h2, h3, h4⟩
theorem bits_pow (N : Nat) : bitsN (2 ^ N) = N + 1 := by
  unfold bitsN
  rw [if_neg (by have : 0 < 2 ^ N := Nat.pow_pos (by omega); omega), Nat.log2_two_pow]
theorem bits_pow1 (N : Nat) : bitsN (2 ^ N - 1) = N := by
  unfold bitsN
  have hp : 0 < 2 ^ N := Nat.pow_pos (by omega)
  cases N with
  | zero => rfl
  | succ N =>
    have hp2 : 0 < 2 ^ N := Nat.pow_pos (by omega)
    have e : 2 ^ (N + 1) = 2 * 2 ^ N := by rw [Nat.pow_succ, Nat.mul_comm]
    have h : Nat.log2 (2 ^ (N + 1) - 1) = N := (Nat.log2_eq_iff (by omega)).2 ⟨by omega, by omega⟩
    rw [if_neg (by omega), h]
theorem lim_pow (N : Nat) (k : Nat) (h : N < 64 * k) : Lim (2 ^ N) k := by
  unfold Lim
  rw [BB_pow, ← Nat.pow_mul]
  exact Nat.pow_lt_pow_right (by omega) h

set_option maxHeartbeats 800000 in
set_option maxRecDepth 100000 in
theorem powers_out (n k : Int) (w : World) (htab : Hid (Tab w)) (h : n < 0 ∨ (¬ n < 0 ∧ 900 < n) ∨ (¬ n < 0 ∧ ¬ 900 < n ∧ k < 0) ∨ (¬ n < 0 ∧ ¬ 900 < n ∧ ¬ k < 0 ∧ 3 < k)) :
    Calls Tryd.prog 9 #[.int .i64 n, .int .i64 k] w fun e w' => e = .returned (.bool true) ∧ Only [] w w' := by
  rcases h with h | ⟨h0, h⟩ | ⟨h0, h1, h⟩ | ⟨h0, h1, h2, h⟩
  all_goals
    go_enter Tryd.func9, Tryd.ntmps9
    go_wp2_with fail
    refine (alive1_any w htab).mono ?_
    rintro e w2 ⟨rfl, ho⟩
    have HO := Lib.hid ho
    clear ho
    go_wp2_with fail
    go_ret
    exact ⟨rfl, HO.out⟩

set_option maxHeartbeats 3200000 in
set_option maxRecDepth 100000 in
theorem powers_in (n k : Nat) (w : World) (htab : Hid (Tab w)) (htab6 : Hid (Tab6 w)) (hn : (n : Int) ≤ 900) (hk : (k : Int) ≤ 3) :
    Calls Tryd.prog 9 #[.int .i64 (n : Int), .int .i64 (k : Int)] w fun e w' => e = .returned (.bool true) ∧ Only [] w w' := by
  have HE := Lib.hid (Env.start w)
  have H1 : Hid (1 < BB) := by show _ < _; rw [BB_val]; omega
  have Hk : Hid (k < BB) := by show _ < _; rw [BB_val]; omega
  have Hp : Hid (0 < 2 ^ n) := Nat.pow_pos (by omega)
  have HLp : Hid (Lim (2 ^ n) 15) := lim_pow n 15 (by omega)
  have HLq : Hid (Lim (2 ^ n + k) 17) := HLp.out.add (Lim.one Hk.out)
  have HUp : Hid (shlN 1 (n : Int) = 2 ^ n) := by show _ = _; rw [shlN_up _ _ (by omega), Nat.one_mul]
  have HFp : Hid (Few (shlN 1 (n : Int))) := by show Few _; rw [HUp.out]; exact HLp.out.few (by omega)
  have HFq : Hid (Few (2 ^ n + k)) := HLq.out.few (by omega)
  obtain ⟨m, hm⟩ : ∃ m, 2 * n = m := ⟨_, rfl⟩
  have hmi : (2 : Int) * (n : Int) = (m : Int) := by omega
  have hmb : (m : Int) ≤ 1800 := by omega
  have HSq : Hid (2 ^ m = 2 ^ n * 2 ^ n) := by show _ = _; rw [← hm, Nat.two_mul, Nat.pow_add]
  have HUm : Hid (shlN 1 (m : Int) = 2 ^ n * 2 ^ n) := by show _ = _; rw [shlN_up _ _ (by omega), Nat.one_mul, HSq.out]
  have HFm : Hid (Few (shlN 1 (m : Int))) := by show Few _; rw [HUm.out]; exact (HLp.out.mul HLp.out).few (by omega)
  have HC1 : Hid (cmpZ (2 ^ n) (2 ^ n) = 0) := cmp_eq rfl
  have HC2 : Hid (cmpZ (2 ^ n + k) (2 ^ n + k) = 0) := cmp_eq rfl
  have HDec : Hid (decide (1 ≤ 2 ^ n) = true) := by show _ = _; exact decide_eq_true Hp.out
  have HBp := Lib.hid (bits_pow n)
  have HBl := Lib.hid (bits_pow1 n)
  have HLow : Hid (lowN (2 ^ n) = n) := by
    have := lowN_is n 0
    simp at this
    exact this
  have HDp : Hid (shlN (2 ^ n) (-(n : Int)) = 1) := by show _ = _; rw [shlN_down _ _ (by omega)]; exact Nat.div_self Hp.out
  have HDl : Hid (shlN (2 ^ n - 1) (-(n : Int)) = 0) := by show _ = _; rw [shlN_down _ _ (by omega)]; exact Nat.div_eq_of_lt (by have := Hp.out; omega)
  have HFDp : Hid (Few (shlN (2 ^ n) (-(n : Int)))) := by show Few _; rw [HDp.out]; exact few_small H1.out
  have HFDl : Hid (Few (shlN (2 ^ n - 1) (-(n : Int)))) := by show Few _; rw [HDl.out]; exact few_small BB_pos
  have hkw : IntKind.u64.wrap (k : Int) = (k : Int) := u64_wrap Hk.out
  clear hm
  go_enter Tryd.func9, Tryd.ntmps9
  go_wp2_with fail
  refine (alive1_any _ (Lib.hid (htab.out.only HE.out.only))).mono ?_
  rintro e w2 ⟨rfl, ho⟩
  replace HE := Lib.hid (HE.out.step ho)
  clear ho
  go_wp2_with fail
  (with_reducible refine (of_lit 1 1 _ H1 (Lib.hid rfl)).mono ?_)
  rintro e w3 ⟨A1, k1, c1, rfl, -, hv, ho⟩
  replace HE := Lib.hid ((HE.out.step ho).push hv)
  clear hv ho
  go_wp2_with fail
  have hx0 := Env.at HE 0 rfl rfl
  (with_reducible refine (shl_v (n : Int) hx0 HFp).mono ?_)
  clear hx0
  rintro e w4 ⟨A2, k2, c2, rfl, -, hv, ho⟩
  rw [HUp.out] at hv
  replace HE := Lib.hid ((HE.out.step ho).push hv)
  clear hv ho
  go_wp2_with fail
  (with_reducible refine (of_lit k _ _ Hk (Lib.hid rfl)).mono ?_)
  rintro e w5 ⟨A3, k3, c3, rfl, -, hv, ho⟩
  replace HE := Lib.hid ((HE.out.step ho).push hv)
  clear hv ho
  go_wp2_with fail
  have hx0 := Env.at HE 1 rfl rfl
  have hx1 := Env.at HE 0 rfl rfl
  (with_reducible refine (add2_v hx0 hx1 HFq).mono ?_)
  clear hx0 hx1
  rintro e w6 ⟨A4, k4, c4, rfl, -, hv, ho⟩
  replace HE := Lib.hid ((HE.out.step ho).push hv)
  clear hv ho
  go_wp2_with fail
  (with_reducible refine (of_lit 1 1 _ H1 (Lib.hid rfl)).mono ?_)
  rintro e w7 ⟨A5, k5, c5, rfl, -, hv, ho⟩
  replace HE := Lib.hid ((HE.out.step ho).push hv)
  clear hv ho
  go_wp2_with fail
  have hx0 := Env.at HE 0 rfl rfl
  (with_reducible refine (shl_v (m : Int) hx0 HFm).mono ?_)
  clear hx0
  rintro e w8 ⟨A6, k6, c6, rfl, -, hv, ho⟩
  rw [HUm.out] at hv
  replace HE := Lib.hid ((HE.out.step ho).push hv)
  clear hv ho
  go_wp2_with fail
  have hx0 := Env.at HE 0 rfl rfl
  (with_reducible refine (sqrt_v hx0).mono ?_)
  clear hx0
  rintro e w9 ⟨A7, k7, c7, A8, k8, c8, _, _, rfl, rfl, rfl, -, hr2, hv1, hv2, -, ho⟩
  rw [root_sq] at hv1
  rw [root_sq, Nat.sub_self] at hv2 hr2
  replace HE := Lib.hid (((HE.out.step ho).push hv2).push hv1)
  have HRs := Lib.hid hr2
  clear hv1 hv2 ho hr2
  obtain rfl : k8 = 0 := by have := HRs.out.len; rwa [limbsOf_zero] at this
  go_wp2_with fail
  have hx0 := Env.at HE 4 rfl rfl
  (with_reducible refine (text_v hx0 (Lib.hid (htab.out.only HE.out.only))).mono ?_)
  clear hx0
  rintro e w10 ⟨rfl, ho⟩
  replace HE := Lib.hid (HE.out.step ho)
  clear ho
  go_wp2_with fail
  refine (parse_dec_v (2 ^ n + k) 17 HLq (by omega)).mono ?_
  rintro e w11 ⟨A9, k9, c9, rfl, -, hv, ho⟩
  replace HE := Lib.hid ((HE.out.step ho).push hv)
  clear hv ho
  go_wp2_with fail
  (with_reducible refine (of_lit 1 1 _ H1 (Lib.hid rfl)).mono ?_)
  rintro e w12 ⟨A10, k10, c10, rfl, -, hv, ho⟩
  replace HE := Lib.hid ((HE.out.step ho).push hv)
  clear hv ho
  go_wp2_with fail
  have hx0 := Env.at HE 8 rfl rfl
  have hx1 := Env.at HE 0 rfl rfl
  (with_reducible refine (sub_v hx0 hx1).mono ?_)
  clear hx0 hx1
  rintro e w13 ⟨A11, k11, c11, _, rfl, rfl, -, hv, ho⟩
  rw [HDec.out]
  replace HE := Lib.hid ((HE.out.step ho).push hv)
  clear hv ho
  go_wp2_with fail
  have hx0 := Env.at HE 9 rfl rfl
  (with_reducible refine (bits_v hx0).mono ?_)
  clear hx0
  rintro e w' ⟨rfl, rfl⟩
  rw [HBp.out]
  go_wp2_with fail
  have hx0 := Env.at HE 9 rfl rfl
  (with_reducible refine (low_v hx0 (Lib.hid (htab6.out.only HE.out.only))).mono ?_)
  clear hx0
  rintro e w' ⟨rfl, rfl⟩
  rw [HLow.out]
  go_wp2_with fail
  have hx0 := Env.at HE 3 rfl rfl
  have hx1 := Env.at HE 9 rfl rfl
  (with_reducible refine (cmp_v hx0 hx1).mono ?_)
  clear hx0 hx1
  rintro e w14 ⟨rfl, ho⟩
  replace HE := Lib.hid (HE.out.step ho)
  clear ho
  rw [HC1.out]
  go_wp2_with fail
  have hx0 := Env.at HE 2 rfl rfl
  have hx1 := Env.at HE 7 rfl rfl
  (with_reducible refine (cmp_v hx0 hx1).mono ?_)
  clear hx0 hx1
  rintro e w15 ⟨rfl, ho⟩
  replace HE := Lib.hid (HE.out.step ho)
  clear ho
  rw [HC2.out]
  go_wp2_with fail
  have hx0 := Env.at HE 0 rfl rfl
  (with_reducible refine (bits_v hx0).mono ?_)
  clear hx0
  rintro e w' ⟨rfl, rfl⟩
  rw [HBl.out]
  go_wp2_with fail
  have hx0 := Env.at HE 9 rfl rfl
  (with_reducible refine (shr_v (n : Int) hx0 HFDp).mono ?_)
  clear hx0
  rintro e w16 ⟨A12, k12, c12, rfl, -, hv, ho⟩
  rw [HDp.out] at hv
  replace HE := Lib.hid ((HE.out.step ho).push hv)
  clear hv ho
  go_wp2_with fail
  (with_reducible refine (of_lit 1 1 _ H1 (Lib.hid rfl)).mono ?_)
  rintro e w17 ⟨A13, k13, c13, rfl, -, hv, ho⟩
  replace HE := Lib.hid ((HE.out.step ho).push hv)
  clear hv ho
  go_wp2_with fail
  have hx0 := Env.at HE 1 rfl rfl
  have hx1 := Env.at HE 0 rfl rfl
  (with_reducible refine (cmp_v hx0 hx1).mono ?_)
  clear hx0 hx1
  rintro e w18 ⟨rfl, ho⟩
  replace HE := Lib.hid (HE.out.step ho)
  clear ho
  rw [cmp_eq rfl]
  go_wp2_with fail
  have hx0 := Env.at HE 2 rfl rfl
  (with_reducible refine (shr_v (n : Int) hx0 HFDl).mono ?_)
  clear hx0
  rintro e w19 ⟨A14, k14, c14, rfl, hr, hv, ho⟩
  rw [HDl.out] at hv hr
  replace HE := Lib.hid ((HE.out.step ho).push hv)
  have HRd2 := Lib.hid hr
  clear hv ho hr
  obtain rfl : k14 = 0 := by have := HRd2.out.len; rwa [limbsOf_zero] at this
  go_wp2_with fail
  have hx0 := Env.at HE 3 rfl rfl
  (with_reducible refine (shl_v (-(n : Int)) hx0 HFDl).mono ?_)
  clear hx0
  rintro e w20 ⟨A15, k15, c15, rfl, -, hv, ho⟩
  rw [HDl.out] at hv
  replace HE := Lib.hid ((HE.out.step ho).push hv)
  clear hv ho
  go_wp2_with fail
  have hx0 := Env.at HE 4 rfl rfl
  (with_reducible refine (shr_v (n : Int) hx0 HFDl).mono ?_)
  clear hx0
  rintro e w21 ⟨A16, k16, c16, rfl, -, hv, ho⟩
  rw [HDl.out] at hv
  replace HE := Lib.hid ((HE.out.step ho).push hv)
  clear hv ho
  go_wp2_with fail
  have hx0 := Env.at HE 1 rfl rfl
  have hx1 := Env.at HE 0 rfl rfl
  (with_reducible refine (cmp_v hx0 hx1).mono ?_)
  clear hx0 hx1
  rintro e w22 ⟨rfl, ho⟩
  replace HE := Lib.hid (HE.out.step ho)
  clear ho
  rw [cmp_eq rfl]
  go_wp2_with fail
  go_ret
  exact ⟨rfl, HE.out.only⟩

theorem powers_any (n k : Int) (w : World) (_ : (Lit.int .i64 n).wf = true) (_ : (Lit.int .i64 k).wf = true) (htab : Tab w) (htab6 : Tab6 w) :
    Calls Tryd.prog 9 #[.int .i64 n, .int .i64 k] w fun e w' => e = .returned (.bool true) ∧ Only [] w w' := by
  by_cases h : n < 0 ∨ (¬ n < 0 ∧ 900 < n) ∨ (¬ n < 0 ∧ ¬ 900 < n ∧ k < 0) ∨ (¬ n < 0 ∧ ¬ 900 < n ∧ ¬ k < 0 ∧ 3 < k)
  · exact powers_out n k w htab h
  · obtain ⟨n', rfl⟩ : ∃ n' : Nat, n = (n' : Int) := ⟨n.toNat, by omega⟩
    obtain ⟨k', rfl⟩ : ∃ k' : Nat, k = (k' : Int) := ⟨k.toNat, by omega⟩
    exact powers_in n' k' w htab htab6 (by omega) (by omega)
end Go.Proofs.YtcmimpooknbopaaDoor
