/-
  NatSplits: the law's walk.
-/
import Derived.Test.YtcmimpooknbopaaDoorEnv
import Derived.Test.YtcmimpooknbopaaDoorAlive1
import Derived.Test.YtcmimpooknbopaaDoorRefS
import Derived.Test.YtcmimpooknbopaaDoorPowers
namespace Go.Proofs.YtcmimpooknbopaaDoor
open Go.RowKit

theorem bits_lt {n k : Nat} (h : n < 2 ^ k) : bitsN n ≤ k := by
  unfold bitsN
  by_cases h0 : n = 0
  · rw [if_pos h0]; omega
  · rw [if_neg h0]
    have h1 := (Nat.log2_eq_iff (k := Nat.log2 n) h0).1 rfl
    apply Nat.lt_of_not_le
    intro h2
    have h3 : 2 ^ k ≤ 2 ^ Nat.log2 n := Nat.pow_le_pow_right (by omega) (by omega)
    omega
theorem bits_zero {n : Nat} : bitsN n = 0 ↔ n = 0 := by
  unfold bitsN
  constructor
  · intro h
    apply Decidable.byContradiction
    intro h0
    rw [if_neg h0] at h
    omega
  · rintro rfl
    rfl
theorem low_ge {q n : Nat} (h : q ≠ 0) : n ≤ lowN (q * 2 ^ n) := by
  obtain ⟨m, hm⟩ := lowN_spec h
  have e : q * 2 ^ n = 2 ^ (n + lowN q) * (2 * m + 1) := by
    rw [Nat.pow_add, Nat.mul_assoc, ← hm, Nat.mul_comm]
  rw [e, lowN_is]
  omega
set_option maxHeartbeats 800000 in
set_option maxRecDepth 100000 in
theorem splits_out (A : Option Addr) (p c : Nat) (n : Int) (w : World) (htab : Hid (Tab w)) (h : lightB [⟨A, p, c⟩] = false ∨ (lightB [⟨A, p, c⟩] = true ∧ n < 0) ∨ (lightB [⟨A, p, c⟩] = true ∧ ¬ n < 0 ∧ 3000 < n)) :
    Calls Tryd.prog 6 #[.slice A p c, .int .i64 n] w fun e w' => e = .returned (.bool true) ∧ Only [] w w' := by
  rcases h with h | ⟨h, h0⟩ | ⟨h, h0, h1⟩
  all_goals
    have HL := Lib.hid h
    clear h
    go_enter Tryd.func6, Tryd.ntmps6
    go_wp2_with fail
    refine (light_v [⟨A, p, c⟩] 1 (Lib.hid rfl) (by omega)).mono ?_
    rintro e w1 ⟨rfl, ho1⟩
    rw [HL.out]
    have HO1 := Lib.hid ho1
    clear ho1
    go_wp2_with fail
    refine (alive1_any w1 (Lib.hid (htab.out.only HO1.out))).mono ?_
    rintro e w2 ⟨rfl, ho2⟩
    have HO2 := Lib.hid (HO1.out.nil_trans ho2)
    clear ho2
    go_wp2_with fail
    go_ret
    exact ⟨rfl, HO2.out⟩

set_option maxHeartbeats 6400000 in
set_option maxRecDepth 100000 in
theorem splits_in (A : Option Addr) (p c m n : Nat) (w : World) (htab : Hid (Tab w)) (htab6 : Hid (Tab6 w)) (hl : Hid (lightB [⟨A, p, c⟩] = true)) (ha : Hid (NV w (.slice A p c) m)) (hm : Hid (Lim m 40)) (hn : (n : Int) ≤ 3000) :
    Calls Tryd.prog 6 #[.slice A p c, .int .i64 (n : Int)] w fun e w' => e = .returned (.bool true) ∧ Only [] w w' := by
  have HE := Lib.hid ((Env.start w).push ha.out)
  have HLe : Hid (m / 2 ^ n * 2 ^ n ≤ m) := Nat.div_mul_le_self _ _
  have HFm : Hid (Few m) := hm.out.few (by omega)
  have HDn : Hid (shlN m (-(n : Int)) = m / 2 ^ n) := shlN_down _ _ (by omega)
  have HUp : Hid (shlN (m / 2 ^ n) (n : Int) = m / 2 ^ n * 2 ^ n) := shlN_up _ _ (by omega)
  have HF1 : Hid (Few (shlN m (-(n : Int)))) := by show Few _; rw [HDn.out]; exact HFm.out.le (Nat.div_le_self _ _)
  have HF1r : Hid (Few (m / 2 ^ n)) := HFm.out.le (Nat.div_le_self _ _)
  have HF2 : Hid (Few (shlN (m / 2 ^ n) (n : Int))) := by show Few _; rw [HUp.out]; exact HFm.out.le HLe.out
  have HF2r : Hid (Few (m / 2 ^ n * 2 ^ n)) := HFm.out.le HLe.out
  have HDec : Hid (decide (m / 2 ^ n * 2 ^ n ≤ m) = true) := decide_eq_true HLe.out
  have HMod : Hid (m - m / 2 ^ n * 2 ^ n = m % 2 ^ n) := by
    have := Nat.mod_add_div m (2 ^ n)
    rw [Nat.mul_comm] at this
    show _ = _
    omega
  have HBl : Hid ((bitsN (m % 2 ^ n) : Int) ≤ (n : Int)) := by
    have := bits_lt (Nat.mod_lt m (show 0 < 2 ^ n from Nat.pow_pos (by omega)))
    show _ ≤ _
    omega
  have HSum : Hid (m / 2 ^ n * 2 ^ n + m % 2 ^ n = m) := by
    have := Nat.mod_add_div m (2 ^ n)
    rw [Nat.mul_comm] at this
    show _ = _
    omega
  have HFs : Hid (Few (m / 2 ^ n * 2 ^ n + m % 2 ^ n)) := by show Few _; rw [HSum.out]; exact HFm.out
  have HC : Hid (cmpZ (m / 2 ^ n * 2 ^ n + m % 2 ^ n) m = 0) := cmp_eq HSum.out
  clear ha
  go_enter Tryd.func6, Tryd.ntmps6
  go_wp2_with fail
  refine (light_v [⟨A, p, c⟩] 1 (Lib.hid rfl) (by omega)).mono ?_
  rintro e w1 ⟨rfl, ho⟩
  rw [hl.out]
  replace HE := Lib.hid (HE.out.step ho)
  clear ho
  go_wp2_with fail
  refine (alive1_any _ (Lib.hid (htab.out.only HE.out.only))).mono ?_
  rintro e w2 ⟨rfl, ho⟩
  replace HE := Lib.hid (HE.out.step ho)
  clear ho
  go_wp2_with fail
  have hx0 := Env.at HE 0 rfl rfl
  (with_reducible refine (shr_v (n : Int) hx0 HF1).mono ?_)
  clear hx0
  rintro e w3 ⟨A1, k1, c1, rfl, -, hv, ho⟩
  rw [HDn.out] at hv
  replace HE := Lib.hid ((HE.out.step ho).push hv)
  clear hv ho
  go_wp2_with fail
  have hx0 := Env.at HE 0 rfl rfl
  (with_reducible refine (shl_v (n : Int) hx0 HF2).mono ?_)
  clear hx0
  rintro e w4 ⟨A2, k2, c2, rfl, hr, hv, ho⟩
  rw [HUp.out] at hv hr
  replace HE := Lib.hid ((HE.out.step ho).push hv)
  have HRup := Lib.hid hr
  clear hv ho hr
  go_wp2_with fail
  have HKup := Lib.hid HRup.out.len
  have hx0 := Env.at HE 2 rfl rfl
  have hx1 := Env.at HE 0 rfl rfl
  (with_reducible refine (sub_v hx0 hx1).mono ?_)
  clear hx0 hx1
  rintro e w5 ⟨A3, k3, c3, _, rfl, rfl, -, hv, ho⟩
  rw [HDec.out]
  rw [HMod.out] at hv
  replace HE := Lib.hid ((HE.out.step ho).push hv)
  clear hv ho
  go_wp2_with fail
  have hx0 := Env.at HE 0 rfl rfl
  (with_reducible refine (bits_v hx0).mono ?_)
  clear hx0
  rintro e w' ⟨rfl, rfl⟩
  have hbl := HBl.out
  generalize (bitsN (m % 2 ^ n) : Int) = bl at hbl ⊢
  go_wp2_with fail
  clear hbl
  have hx0 := Env.at HE 1 rfl rfl
  have hx1 := Env.at HE 0 rfl rfl
  (with_reducible refine (add2_v hx0 hx1 HFs).mono ?_)
  clear hx0 hx1
  rintro e w6 ⟨A4, k4, c4, rfl, -, hv, ho⟩
  replace HE := Lib.hid ((HE.out.step ho).push hv)
  clear hv ho
  go_wp2_with fail
  have hx0 := Env.at HE 0 rfl rfl
  have hx1 := Env.at HE 4 rfl rfl
  (with_reducible refine (cmp_v hx0 hx1).mono ?_)
  clear hx0 hx1
  rintro e w7 ⟨rfl, ho⟩
  replace HE := Lib.hid (HE.out.step ho)
  clear ho
  rw [HC.out]
  go_wp2_with fail
  have hx0 := Env.at HE 2 rfl rfl
  (with_reducible refine (bits_v hx0).mono ?_)
  clear hx0
  rintro e w' ⟨rfl, rfl⟩
  by_cases hq : m / 2 ^ n * 2 ^ n = 0
  · have hb : (bitsN (m / 2 ^ n * 2 ^ n) : Int) = 0 := by rw [bits_zero.2 hq]; rfl
    rw [hb]
    clear hb hq
    go_wp2_with fail
    have hx0 := Env.at HE 4 rfl rfl
    (with_reducible refine (from_v hx0).mono ?_)
    clear hx0
    rintro e wf ⟨Af, kf, cf, rfl, hv, ho⟩
    replace HE := Lib.hid (HE.out.step ho)
    have HVf := Lib.hid hv
    clear hv ho
    go_wp2_with fail
    (with_reducible refine (rshr_v n (by omega) HVf HFm).mono ?_)
    rintro e wg ⟨Ag, kg, cg, rfl, hv, ho⟩
    replace HE := Lib.hid (HE.out.step ho)
    have HVg := Lib.hid hv
    clear hv ho
    go_wp2_with fail
    (with_reducible refine (rshl_v n (by omega) HVg HF1r).mono ?_)
    rintro e wh ⟨Ah, kh, ch, rfl, hv, ho⟩
    replace HE := Lib.hid (HE.out.step ho)
    have HVh := Lib.hid hv
    clear hv ho
    go_wp2_with fail
    have hx0 := Env.at HE 2 rfl rfl
    (with_reducible refine (is_nv hx0 HKup HVh HF2r).mono ?_)
    clear hx0
    rintro e wi ⟨rfl, ho⟩
    rw [decide_eq_true (rfl : m / 2 ^ n * 2 ^ n = m / 2 ^ n * 2 ^ n)]
    replace HE := Lib.hid (HE.out.step ho)
    clear ho
    go_wp2_with fail
    go_ret
    exact ⟨rfl, HE.out.only⟩
  · have hb : ((bitsN (m / 2 ^ n * 2 ^ n) : Int) == 0) = false := by
      rw [beq_eq_false_iff_ne]
      have : bitsN (m / 2 ^ n * 2 ^ n) ≠ 0 := fun h => hq (bits_zero.1 h)
      omega
    have HLw : Hid ((n : Int) ≤ (lowN (m / 2 ^ n * 2 ^ n) : Int)) := by
      have := low_ge (n := n) (q := m / 2 ^ n) (fun h => hq (by rw [h, Nat.zero_mul]))
      show _ ≤ _
      omega
    clear hq
    go_wp2_with fail
    have hx0 := Env.at HE 2 rfl rfl
    (with_reducible refine (low_v hx0 (Lib.hid (htab6.out.only HE.out.only))).mono ?_)
    clear hx0
    rintro e w' ⟨rfl, rfl⟩
    have hlw := HLw.out
    generalize (lowN (m / 2 ^ n * 2 ^ n) : Int) = lw at hlw ⊢
    go_wp2_with fail
    clear hlw
    have hx0 := Env.at HE 4 rfl rfl
    (with_reducible refine (from_v hx0).mono ?_)
    clear hx0
    rintro e wf ⟨Af, kf, cf, rfl, hv, ho⟩
    replace HE := Lib.hid (HE.out.step ho)
    have HVf := Lib.hid hv
    clear hv ho
    go_wp2_with fail
    (with_reducible refine (rshr_v n (by omega) HVf HFm).mono ?_)
    rintro e wg ⟨Ag, kg, cg, rfl, hv, ho⟩
    replace HE := Lib.hid (HE.out.step ho)
    have HVg := Lib.hid hv
    clear hv ho
    go_wp2_with fail
    (with_reducible refine (rshl_v n (by omega) HVg HF1r).mono ?_)
    rintro e wh ⟨Ah, kh, ch, rfl, hv, ho⟩
    replace HE := Lib.hid (HE.out.step ho)
    have HVh := Lib.hid hv
    clear hv ho
    go_wp2_with fail
    have hx0 := Env.at HE 2 rfl rfl
    (with_reducible refine (is_nv hx0 HKup HVh HF2r).mono ?_)
    clear hx0
    rintro e wi ⟨rfl, ho⟩
    rw [decide_eq_true (rfl : m / 2 ^ n * 2 ^ n = m / 2 ^ n * 2 ^ n)]
    replace HE := Lib.hid (HE.out.step ho)
    clear ho
    go_wp2_with fail
    go_ret
    exact ⟨rfl, HE.out.only⟩

theorem splits_any (A : Option Addr) (c : Nat) (xs : List Nat) (n : Int) (w : World) (hA : LimbsIn w A xs) (hc : xs.length ≤ c) (_ : c ≤ maxLen) (_ : (Lit.int .i64 n).wf = true) (htab : Tab w) (htab6 : Tab6 w) :
    Calls Tryd.prog 6 #[.slice A xs.length c, .int .i64 n] w fun e w' => e = .returned (.bool true) ∧ Only [] w w' := by
  cases hl : lightB [⟨A, xs.length, c⟩] with
  | false => exact splits_out A _ c n w htab (.inl hl)
  | true =>
    by_cases h0 : n < 0
    · exact splits_out A _ c n w htab (.inr (.inl ⟨hl, h0⟩))
    · by_cases h1 : 3000 < n
      · exact splits_out A _ c n w htab (.inr (.inr ⟨hl, h0, h1⟩))
      · obtain ⟨k, rfl⟩ : ∃ k : Nat, n = (k : Int) := ⟨n.toNat, by omega⟩
        have h2 : xs.length ≤ 40 := by simpa [lightB] using hl
        exact splits_in A _ c (val xs) k w htab htab6 (Lib.hid hl) (NV.mk ⟨hA.1, hA.2, by omega⟩ hc (by omega)) (Lim.val hA.2 h2) (by omega)
end Go.Proofs.YtcmimpooknbopaaDoor
