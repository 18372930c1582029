/-
  The reference's float beside a number: it is the program's.
-/
import Derived.Test.YtgiejjpemhceiaaDoorTeFlT
import Derived.Test.YtgiejjpemhceiaaDoorTeFlY
import Derived.Test.YtgiejjpemhceiaaDoorTeRdG
import Derived.Test.YtgiejjpemhceiaaDoorTeGRd
namespace Go.Proofs.YtgiejjpemhceiaaDoor
set_option linter.unusedSimpArgs false
open Go.RowKit

namespace Fl
set_option maxHeartbeats 1600000 in
theorem rsigned_any (neg : Bool) (q u : Nat) (hq : q < 9223372036854775808) (hu : wordB neg q = u) (w : World) : Calls Tryd.prog 117 #[.float .f64 q, .bool neg] w fun e w' => e = .returned (.float .f64 u) ∧ w = w' := by
  have hn : Op.negFloat .f64 q = wordB true q := neg_word false hq
  have hr : ∀ w : World, (Op.unary UnOp.neg (.float .f64 q)).run Tryd.prog w = .ok (.float .f64 (wordB true q)) w := fun w => by rw [← hn]; rfl
  clear hn hq
  cases neg
  · have e : wordB false q = q := rfl
    rw [e] at hu
    subst hu
    clear hr
    go_enter Tryd.func117, Tryd.ntmps117
    go_wp2_with fail
    go_ret
    exact ⟨rfl, rfl⟩
  · rw [hu] at hr
    clear hu
    go_enter Tryd.func117, Tryd.ntmps117
    go_wp2_with fail
    go_ret
    exact ⟨rfl, rfl⟩
theorem rval_drop_le : ∀ (xs : List Nat) (j : Nat), R.val (xs.drop j) ≤ R.val xs
  | [], j => by simp
  | x :: xs, 0 => Nat.le_refl _
  | x :: xs, j + 1 => by
    have h := rval_drop_le xs j
    have e : R.val (x :: xs) = x + R.BB * R.val xs := rfl
    have h2 : R.val xs ≤ R.BB * R.val xs := Nat.le_mul_of_pos_left _ R.BB_pos
    rw [List.drop_succ_cons, e]
    omega
theorem top_ge {x r : Dy} {up : Bool} {P : Nat} (hP : 1 ≤ P) (h : x.z ≠ 0) (hr : Rd P up (· ≤ x.q) (x.q ≤ ·) r) : topD x ≤ topD r := by
  obtain ⟨a1, -, a3, -, -⟩ := rd_amount hP h hr
  have h2 := (aq_top a1).2
  refine Decidable.byContradiction fun hc => ?_
  have := p2_mono (show topD r ≤ topD x - 1 by omega)
  grind
set_option maxHeartbeats 1600000 in
set_option maxRecDepth 100000 in
theorem rfloat_zero {w : World} {a : Value} {x : Dy} (dir : Int) (ha : Hid (RD w a x)) (hz : x.z = 0) : Calls Tryd.prog 51 #[a, .int .i64 dir] w fun e w' => e = .returned (.float .f64 0) ∧ Only [] w w' := by
  obtain ⟨s, A, k, c, rfl, hc, hv⟩ := ha.out
  have hk := (KB.start w).new 31 [.bool s, .slice A k c, .int .i64 x.e]
  have HV := Lib.hid (hv.only hk.only)
  have HK := Lib.hid hk
  have HC := Lib.hid hc
  clear hk hv hc ha
  have HP : Hid (x.z.sign = 0) := by show _ = _; rw [hz]; rfl
  clear hz
  obtain ⟨i0, i1, i2, -, -, -⟩ := HK.out.c3 0 rfl
  go_enter Tryd.func51, Tryd.ntmps51
  go_wp2_with fail
  (with_reducible refine (rsign_d 0 (RD.of HV HC) HP.out).mono ?_)
  rintro e w2 ⟨rfl, ho⟩
  replace HK := Lib.hid (HK.out.step ho)
  replace HV := Lib.hid (HV.out.only ho)
  clear ho i0 i1 i2
  obtain ⟨i0, i1, i2, -, -, -⟩ := HK.out.c3 0 rfl
  go_wp2_with fail
  go_ret
  exact ⟨rfl, HK.out.only⟩
set_option maxHeartbeats 1600000 in
set_option maxRecDepth 100000 in
theorem rfloat_low {w : World} {s : Bool} {A : Option Addr} {k c N : Nat} {x : Dy} (dir p t P : Int) (u : Nat) (aw : Bool) (HP : Hid (x.z.sign = p)) (hp0 : (p == 0) = false) (HT : Hid (topD x = t)) (ht : -100000000 ≤ t ∧ t ≤ 100000000) (hmin : min 53 (t + 1074) = P) (hP : P < 1) (haw : (s == decide (dir < 0)) = aw) (HU : Hid (aw = true → wordB s 1 = u)) (hu0 : aw = false → u = 0) (hv : RV w (.slice A k c) x.z.natAbs) (HC : Hid (Cr s k x.z)) (bx : Hid (Bnd N x)) (hN : N ≤ 8000000) :
    Calls Tryd.prog 51 #[.agg #[.bool s, .slice A k c, .int .i64 x.e], .int .i64 dir] w fun e w' => e = .returned (.float .f64 u) ∧ Only [] w w' := by
  have hk := (KB.start w).new 31 [.bool s, .slice A k c, .int .i64 x.e]
  have HV := Lib.hid (hv.only hk.only)
  have HK := Lib.hid hk
  clear hk hv
  cases aw
  · have hu := hu0 rfl
    subst hu
    clear hu0 HU
    obtain ⟨i0, i1, i2, -, -, -⟩ := HK.out.c3 0 rfl
    go_enter Tryd.func51, Tryd.ntmps51
    go_wp2_with fail
    (with_reducible refine (rsign_d p (RD.of HV HC) HP.out).mono ?_)
    rintro e w2 ⟨rfl, ho⟩
    replace HK := Lib.hid (HK.out.step ho)
    replace HV := Lib.hid (HV.out.only ho)
    clear ho i0 i1 i2
    obtain ⟨i0, i1, i2, -, -, -⟩ := HK.out.c3 0 rfl
    go_wp2_with fail
    (with_reducible refine (rtop_d t (RD.of HV HC) bx (by omega) HT.out).mono ?_)
    rintro e w3 ⟨rfl, ho⟩
    replace HK := Lib.hid (HK.out.step ho)
    replace HV := Lib.hid (HV.out.only ho)
    clear ho i0 i1 i2
    obtain ⟨i0, i1, i2, -, -, -⟩ := HK.out.c3 0 rfl
    go_wp2_with fail
    go_ret
    exact ⟨rfl, HK.out.only⟩
  · replace HU := Lib.hid (HU.out rfl)
    clear hu0
    have hf1 : ∀ w : World, (callFunc 113 #[.int .u64 1]).run Tryd.prog w = .ok (.value (.float .f64 1)) w := fun w => frombits_run 1 w
    obtain ⟨i0, i1, i2, -, -, -⟩ := HK.out.c3 0 rfl
    go_enter Tryd.func51, Tryd.ntmps51
    go_wp2_with fail
    (with_reducible refine (rsign_d p (RD.of HV HC) HP.out).mono ?_)
    rintro e w2 ⟨rfl, ho⟩
    replace HK := Lib.hid (HK.out.step ho)
    replace HV := Lib.hid (HV.out.only ho)
    clear ho i0 i1 i2
    obtain ⟨i0, i1, i2, -, -, -⟩ := HK.out.c3 0 rfl
    go_wp2_with fail
    (with_reducible refine (rtop_d t (RD.of HV HC) bx (by omega) HT.out).mono ?_)
    rintro e w3 ⟨rfl, ho⟩
    replace HK := Lib.hid (HK.out.step ho)
    replace HV := Lib.hid (HV.out.only ho)
    clear ho i0 i1 i2
    obtain ⟨i0, i1, i2, -, -, -⟩ := HK.out.c3 0 rfl
    go_upto_region 8 with fail
    go_quiet ((go_at_call 117; refine Calls.quiet_of_same ((rsigned_any s _ u (by omega) HU.out _).mono fun _ _ h => ⟨h.1, h.2.symm⟩)))
    go_wp2_with fail
    go_ret
    exact ⟨rfl, HK.out.only.drewN _⟩
set_option maxHeartbeats 1600000 in
set_option maxRecDepth 100000 in
theorem rfloat_far {w : World} {s : Bool} {A : Option Addr} {k c N : Nat} {x : Dy} (dir p t P tr : Int) (u vi : Nat) (aw : Bool) (r : Dy) (HP : Hid (x.z.sign = p)) (hp0 : (p == 0) = false) (HT : Hid (topD x = t)) (ht : -100000000 ≤ t ∧ t ≤ 100000000) (hmin : min 53 (t + 1074) = P) (hP : 1 ≤ P) (haw : (s == decide (dir < 0)) = aw) (HRr : Hid (rndD (widthP P) (decide (0 ≤ dir)) x = r)) (BR : Hid (Bnd N r)) (HTr : Hid (topD r = tr)) (htr : 1024 < tr)
    (HVI : Hid (9218868437227405312 = vi)) (hvi : vi < 9223372036854775808) (HU : Hid (wordB s (if aw then vi else 9218868437227405311) = u)) (hv : RV w (.slice A k c) x.z.natAbs) (HC : Hid (Cr s k x.z)) (bx : Hid (Bnd N x)) (hN : N ≤ 8000000) :
    Calls Tryd.prog 51 #[.agg #[.bool s, .slice A k c, .int .i64 x.e], .int .i64 dir] w fun e w' => e = .returned (.float .f64 u) ∧ Only [] w w' := by
  have hk := (KB.start w).new 31 [.bool s, .slice A k c, .int .i64 x.e]
  have HV := Lib.hid (hv.only hk.only)
  have HK := Lib.hid hk
  clear hk hv
  cases aw
  · replace HU : Hid (wordB s 9218868437227405311 = u) := HU.out
    obtain ⟨i0, i1, i2, -, -, -⟩ := HK.out.c3 0 rfl
    go_enter Tryd.func51, Tryd.ntmps51
    go_wp2_with fail
    (with_reducible refine (rsign_d p (RD.of HV HC) HP.out).mono ?_)
    rintro e w2 ⟨rfl, ho⟩
    replace HK := Lib.hid (HK.out.step ho)
    replace HV := Lib.hid (HV.out.only ho)
    clear ho i0 i1 i2
    obtain ⟨i0, i1, i2, -, -, -⟩ := HK.out.c3 0 rfl
    go_wp2_with fail
    (with_reducible refine (rtop_d t (RD.of HV HC) bx (by omega) HT.out).mono ?_)
    rintro e w3 ⟨rfl, ho⟩
    replace HK := Lib.hid (HK.out.step ho)
    replace HV := Lib.hid (HV.out.only ho)
    clear ho i0 i1 i2
    obtain ⟨i0, i1, i2, -, -, -⟩ := HK.out.c3 0 rfl
    go_wp2_with fail
    (with_reducible refine (rround_d P dir r HRr.out (RD.of HV HC) bx (by omega)).mono ?_)
    rintro e w4 ⟨s2, A2, k2, c2, rfl, hc2, hv2, ho⟩
    have hk := (HK.out.step ho).new 31 [.bool s2, .slice A2 k2 c2, .int .i64 r.e]
    have ha := (Only.refl [] w4).alloc (.cells #[.bool s2, .slice A2 k2 c2, .int .i64 r.e] 31)
    have HV2 := Lib.hid (hv2.only ha)
    have HC2 := Lib.hid hc2
    replace HK := Lib.hid hk
    clear HV hk ha hv2 hc2 ho i0 i1 i2
    obtain ⟨i0, i1, i2, -, -, -⟩ := HK.out.c3 1 rfl
    obtain ⟨j0, j1, j2, -, -, -⟩ := HK.out.c3 0 rfl
    go_wp2_with fail
    (with_reducible refine (rtop_d tr (RD.of HV2 HC2) BR (by omega) HTr.out).mono ?_)
    rintro e w5 ⟨rfl, ho⟩
    replace HK := Lib.hid (HK.out.step ho)
    replace HV2 := Lib.hid (HV2.out.only ho)
    clear ho i0 i1 i2 j0 j1 j2
    obtain ⟨i0, i1, i2, -, -, -⟩ := HK.out.c3 1 rfl
    obtain ⟨j0, j1, j2, -, -, -⟩ := HK.out.c3 0 rfl
    go_wp2_with fail
    (with_reducible refine (rsigned_any s _ u (by omega) HU.out _).mono ?_)
    rintro e w6 ⟨rfl, rfl⟩
    go_wp2_with fail
    go_ret
    exact ⟨rfl, HK.out.only⟩
  · replace HU : Hid (wordB s vi = u) := HU.out
    obtain ⟨i0, i1, i2, -, -, -⟩ := HK.out.c3 0 rfl
    go_enter Tryd.func51, Tryd.ntmps51
    go_wp2_with fail
    (with_reducible refine (rsign_d p (RD.of HV HC) HP.out).mono ?_)
    rintro e w2 ⟨rfl, ho⟩
    replace HK := Lib.hid (HK.out.step ho)
    replace HV := Lib.hid (HV.out.only ho)
    clear ho i0 i1 i2
    obtain ⟨i0, i1, i2, -, -, -⟩ := HK.out.c3 0 rfl
    go_wp2_with fail
    (with_reducible refine (rtop_d t (RD.of HV HC) bx (by omega) HT.out).mono ?_)
    rintro e w3 ⟨rfl, ho⟩
    replace HK := Lib.hid (HK.out.step ho)
    replace HV := Lib.hid (HV.out.only ho)
    clear ho i0 i1 i2
    obtain ⟨i0, i1, i2, -, -, -⟩ := HK.out.c3 0 rfl
    go_wp2_with fail
    (with_reducible refine (rround_d P dir r HRr.out (RD.of HV HC) bx (by omega)).mono ?_)
    rintro e w4 ⟨s2, A2, k2, c2, rfl, hc2, hv2, ho⟩
    have hk := (HK.out.step ho).new 31 [.bool s2, .slice A2 k2 c2, .int .i64 r.e]
    have ha := (Only.refl [] w4).alloc (.cells #[.bool s2, .slice A2 k2 c2, .int .i64 r.e] 31)
    have HV2 := Lib.hid (hv2.only ha)
    have HC2 := Lib.hid hc2
    replace HK := Lib.hid hk
    clear HV hk ha hv2 hc2 ho i0 i1 i2
    obtain ⟨i0, i1, i2, -, -, -⟩ := HK.out.c3 1 rfl
    obtain ⟨j0, j1, j2, -, -, -⟩ := HK.out.c3 0 rfl
    go_wp2_with fail
    (with_reducible refine (rtop_d tr (RD.of HV2 HC2) BR (by omega) HTr.out).mono ?_)
    rintro e w5 ⟨rfl, ho⟩
    replace HK := Lib.hid (HK.out.step ho)
    replace HV2 := Lib.hid (HV2.out.only ho)
    clear ho i0 i1 i2 j0 j1 j2
    obtain ⟨i0, i1, i2, -, -, -⟩ := HK.out.c3 1 rfl
    obtain ⟨j0, j1, j2, -, -, -⟩ := HK.out.c3 0 rfl
    go_upto_region 12 with fail
    go_quiet ((first | (go_at_call 117; refine Calls.quiet_of_same ((rsigned_any s _ u (by omega) HU.out _).mono fun _ _ h => ⟨h.1, h.2.symm⟩)) | (go_at_call 109; refine Calls.quiet_of_same ((infp_any vi _ HVI).mono fun _ _ h => ⟨h.1, h.2.symm⟩))))
    go_wp2_with fail
    go_ret
    exact ⟨rfl, HK.out.only.drewN _⟩
set_option maxHeartbeats 3200000 in
set_option maxRecDepth 100000 in
theorem rfloat_mid {w : World} {s : Bool} {A : Option Addr} {k c N : Nat} {x : Dy} (dir p t P tr : Int) (u m J bb ρ : Nat) (aw : Bool) (r : Dy) (HP : Hid (x.z.sign = p)) (hp0 : (p == 0) = false) (HT : Hid (topD x = t)) (ht : -100000000 ≤ t ∧ t ≤ 100000000) (hmin : min 53 (t + 1074) = P) (hP : 1 ≤ P) (haw : (s == decide (dir < 0)) = aw) (HRr : Hid (rndD (widthP P) (decide (0 ≤ dir)) x = r)) (BR : Hid (Bnd N r)) (HTr : Hid (topD r = tr)) (htr : tr ≤ 1024)
    (HM : Hid (r.z.natAbs = m)) (HE : Hid (-100000000 ≤ r.e ∧ r.e ≤ 100000000)) (HJE : Hid ((J : Int) ≤ 100000)) (HJ : Hid (∀ j, j ≤ J → m * 2 ^ j < 9007199254740992)) (HJ1 : Hid (∀ j, j < J → m * 2 ^ j < 4503599627370496 ∧ -1074 < r.e - (j : Int))) (HVm : Hid (∀ v, m * 2 ^ J = v → v < 9007199254740992))
    (HEnd : Hid ((m * 2 ^ J < 4503599627370496 ∧ r.e - (J : Int) ≤ -1074 ∧ m * 2 ^ J = ρ) ∨ (4503599627370496 ≤ m * 2 ^ J ∧ m * 2 ^ J - 4503599627370496 + bb * 4503599627370496 = ρ ∧ r.e - (J : Int) + 1075 = (bb : Int) ∧ bb ≤ 2046))) (hρ : Hid (ρ < 9223372036854775808)) (hbb : bb ≤ 2046)
    (HU : Hid (wordB s ρ = u)) (hv : RV w (.slice A k c) x.z.natAbs) (HC : Hid (Cr s k x.z)) (bx : Hid (Bnd N x)) (hN : N ≤ 8000000) :
    Calls Tryd.prog 51 #[.agg #[.bool s, .slice A k c, .int .i64 x.e], .int .i64 dir] w fun e w' => e = .returned (.float .f64 u) ∧ Only [] w w' := by
  have hk := (KB.start w).new 31 [.bool s, .slice A k c, .int .i64 x.e]
  have HV := Lib.hid (hv.only hk.only)
  have HK := Lib.hid hk
  clear hk hv
  obtain ⟨i0, i1, i2, -, -, -⟩ := HK.out.c3 0 rfl
  go_enter Tryd.func51, Tryd.ntmps51
  go_wp2_with fail
  (with_reducible refine (rsign_d p (RD.of HV HC) HP.out).mono ?_)
  rintro e w2 ⟨rfl, ho⟩
  replace HK := Lib.hid (HK.out.step ho)
  replace HV := Lib.hid (HV.out.only ho)
  clear ho i0 i1 i2
  obtain ⟨i0, i1, i2, -, -, -⟩ := HK.out.c3 0 rfl
  go_wp2_with fail
  (with_reducible refine (rtop_d t (RD.of HV HC) bx (by omega) HT.out).mono ?_)
  rintro e w3 ⟨rfl, ho⟩
  replace HK := Lib.hid (HK.out.step ho)
  replace HV := Lib.hid (HV.out.only ho)
  clear ho i0 i1 i2
  obtain ⟨i0, i1, i2, -, -, -⟩ := HK.out.c3 0 rfl
  go_wp2_with fail
  (with_reducible refine (rround_d P dir r HRr.out (RD.of HV HC) bx (by omega)).mono ?_)
  rintro e w4 ⟨s2, A2, k2, c2, rfl, hc2, hv2, ho⟩
  have hk := (HK.out.step ho).new 31 [.bool s2, .slice A2 k2 c2, .int .i64 r.e]
  have ha := (Only.refl [] w4).alloc (.cells #[.bool s2, .slice A2 k2 c2, .int .i64 r.e] 31)
  have HV2 := Lib.hid (hv2.only ha)
  have HC2 := Lib.hid hc2
  replace HK := Lib.hid hk
  clear HV hk ha hv2 hc2 ho i0 i1 i2
  obtain ⟨i0, i1, i2, -, -, -⟩ := HK.out.c3 1 rfl
  obtain ⟨j0, j1, j2, -, -, -⟩ := HK.out.c3 0 rfl
  go_wp2_with fail
  (with_reducible refine (rtop_d tr (RD.of HV2 HC2) BR (by omega) HTr.out).mono ?_)
  rintro e w5 ⟨rfl, ho⟩
  replace HK := Lib.hid (HK.out.step ho)
  replace HV2 := Lib.hid (HV2.out.only ho)
  clear ho i0 i1 i2 j0 j1 j2
  obtain ⟨i0, i1, i2, -, -, -⟩ := HK.out.c3 1 rfl
  obtain ⟨j0, j1, j2, -, -, -⟩ := HK.out.c3 0 rfl
  obtain ⟨A2', c2', he, hl, -⟩ := HV2.out
  injection he with he1 he2 he3
  subst he1 he3
  rw [HM.out] at he2 hl
  have HL := Lib.hid hl
  have HK2' := Lib.hid he2
  have hk9 : (k2 : Int) ≤ 7000000 := by
    have h1 := HJ.out 0 (Nat.zero_le _)
    rw [Nat.pow_zero, Nat.mul_one] at h1
    have h2 := R.limbsOf_len_le (n := m) (k := 2) (by rw [R.BB_pow]; omega)
    rw [he2]; omega
  have HVB : Hid (∀ j, R.val ((R.limbsOf m).drop j) < 9007199254740992) := fun j => by
    have h1 := HJ.out 0 (Nat.zero_le _)
    rw [Nat.pow_zero, Nat.mul_one] at h1
    have h2 := rval_drop_le (R.limbsOf m) j
    rw [R.val_limbsOf] at h2
    omega
  clear hl he2 HV2
  go_wp2_with fail
  go_loopw [8, 9] (fun vv iv wr => ∃ j : Nat, j ≤ k2 ∧ vv = .int .u64 ((R.val ((R.limbsOf m).drop j) : Nat) : Int) ∧ iv = .int .i64 ((j : Int) - 1) ∧ Only [] w5 wr) (fun _ iv _ => (intOf iv + 1).toNat)
  case atStart => exact ⟨k2, Nat.le_refl _, by rw [HK2'.out, List.drop_length]; rfl, rfl, Only.refl _ _⟩
  case round =>
    obtain ⟨j, hj, rfl, rfl, ho⟩ := hrel
    have HO1 := Lib.hid ho
    clear ho
    cases j with
    | zero =>
      rw [show R.val ((R.limbsOf m).drop 0) = m by rw [List.drop_zero, R.val_limbsOf]]
      have HK1 := Lib.hid (HK.out.step HO1.out)
      clear i0 i1 i2 j0 j1 j2
      obtain ⟨i0, i1, i2, -, -, -⟩ := HK1.out.c3 1 rfl
      obtain ⟨j0, j1, j2, -, -, -⟩ := HK1.out.c3 0 rfl
      clear HVB HL
      go_wp2_with fail
      go_loopw [8, 10] (fun vv ev wr => ∃ j : Nat, j ≤ J ∧ vv = .int .u64 ((m * 2 ^ j : Nat) : Int) ∧ ev = .int .i64 (r.e - (j : Int)) ∧ Only [] w5 wr) (fun _ ev _ => (intOf ev - (r.e - (J : Int))).toNat)
      case atStart => exact ⟨0, Nat.zero_le _, by rw [Nat.pow_zero, Nat.mul_one], by simp, HO1.out⟩
      case round =>
        obtain ⟨j, hj, rfl, rfl, ho⟩ := hrel
        have HO2 := Lib.hid ho
        clear ho
        have HK2 := Lib.hid (HK.out.step HO2.out)
        clear i0 i1 i2 j0 j1 j2
        obtain ⟨i0, i1, i2, -, -, -⟩ := HK2.out.c3 1 rfl
        obtain ⟨j0, j1, j2, -, -, -⟩ := HK2.out.c3 0 rfl
        by_cases hlt : j < J
        · obtain ⟨g1, g2⟩ := HJ1.out j hlt
          have g3 := HJ.out (j + 1) (by omega)
          obtain ⟨v2, hv2⟩ : ∃ v2, m * 2 ^ (j + 1) = v2 := ⟨_, rfl⟩
          have e1 : m * 2 ^ j * 2 = v2 := by rw [← hv2, Nat.pow_succ, Nat.mul_assoc]
          obtain ⟨v1, hv1⟩ : ∃ v1, m * 2 ^ j = v1 := ⟨_, rfl⟩
          rw [hv1] at g1 e1 ⊢
          rw [hv2] at g3
          have HV1 := Lib.hid hv2
          have w1 : IntKind.u64.wrap ((v1 : Int) * 2) = (v2 : Int) := by rw [IntKind.wrap_u64]; omega
          obtain ⟨q, hq⟩ : ∃ q : Int, r.e - (j : Int) = q := ⟨_, rfl⟩
          rw [hq] at g2 ⊢
          obtain ⟨q2, hq2⟩ : ∃ q2 : Int, q - 1 = q2 := ⟨_, rfl⟩
          have w2_ : IntKind.i64.wrap (q - 1) = q2 := by rw [← hq2]; exact wrap_i64 (by have := HE.out; omega)
          have HQ2 := Lib.hid hq2
          have g1' : (v1 : Int) < 4503599627370496 := by omega
          have HQ := Lib.hid hq
          clear e1 hv1 hv2 hq g1 g3 hq2
          go_wp2_with fail
          go_roundw
          case rel => exact ⟨j + 1, by omega, by rw [HV1.out], by rw [← HQ2.out, ← HQ.out]; congr 1; push_cast; omega, HO2.out⟩
          case measure => have h1 := HQ.out; have h2 := HQ2.out; simp [intOf]; omega
        · obtain rfl : j = J := by omega
          clear hlt hj HJ HJ1
          rcases HEnd.out with ⟨g1, g2, g3⟩ | ⟨g1, g2, g3, g4⟩
          · rw [g3] at g1 ⊢
            obtain ⟨q, hq⟩ : ∃ q : Int, r.e - (j : Int) = q := ⟨_, rfl⟩
            rw [hq] at g2 ⊢
            have d1 : decide ((ρ : Int) < 4503599627370496) = true := decide_eq_true (by omega)
            have d2 : decide (-1074 < q) = false := decide_eq_false (by omega)
            have hf := frombits_run
            clear g1 g2 g3 HEnd hq
            go_upto_region 23 with fail
            go_quiet ((go_at_call 117; refine Calls.quiet_of_same ((rsigned_any s _ u hρ.out HU.out _).mono fun _ _ h => ⟨h.1, h.2.symm⟩)))
            go_wp2_with fail
            go_ret
            exact ⟨rfl, HK2.out.only.drewN _⟩
          · obtain ⟨v, hv⟩ : ∃ v, m * 2 ^ j = v := ⟨_, rfl⟩
            rw [hv] at g1 g2 ⊢
            obtain ⟨q, hq⟩ : ∃ q : Int, r.e - (j : Int) = q := ⟨_, rfl⟩
            rw [hq] at g3 ⊢
            have hf := frombits_run
            obtain ⟨a, ha⟩ : ∃ a, v - 4503599627370496 = a := ⟨_, rfl⟩
            have w1 : IntKind.u64.wrap ((v : Int) - 4503599627370496) = (a : Int) := by rw [IntKind.wrap_u64]; have := HVm.out v hv; omega
            have w2_ : IntKind.i64.wrap (q + 1075) = (bb : Int) := by rw [wrap_i64 (by omega)]; omega
            have w3 : IntKind.u64.wrap ((bb : Int) * 4503599627370496) = ((bb * 4503599627370496 : Nat) : Int) := by rw [IntKind.wrap_u64]; omega
            have w4 : IntKind.u64.wrap ((a : Int) + ((bb * 4503599627370496 : Nat) : Int)) = (ρ : Int) := by have := hρ.out; rw [IntKind.wrap_u64]; omega
            have w5_ : IntKind.u64.wrap (bb : Int) = (bb : Int) := by rw [IntKind.wrap_u64]; omega
            have g1' : ¬ (v : Int) < 4503599627370496 := by omega
            generalize hTT : bb * 4503599627370496 = TT at *
            clear g1 g2 g3 hTT HEnd hq ha hv
            go_upto_region 24 with fail
            go_quiet ((go_at_call 117; refine Calls.quiet_of_same ((rsigned_any s _ u hρ.out HU.out _).mono fun _ _ h => ⟨h.1, h.2.symm⟩)))
            go_wp2_with fail
            go_ret
            exact ⟨rfl, HK2.out.only.drewN _⟩
    | succ j =>
      obtain ⟨b, o, rfl, hc1⟩ := HL.out j (by have := HK2'.out; omega)
      have c1 := HO1.out.cell hc1 (by simp)
      have hjk : (j : Int) < (k2 : Int) := by omega
      rw [show ((j + 1 : Nat) : Int) - 1 = (j : Int) by omega]
      have hb0 := HVB.out j
      have hst := R.val_drop_cons (R.limbsOf m) j (by have := HK2'.out; omega)
      obtain ⟨vd, hvd⟩ : ∃ v, R.val ((R.limbsOf m).drop (j + 1)) = v := ⟨_, rfl⟩
      obtain ⟨ve, hve⟩ : ∃ v, R.val ((R.limbsOf m).drop j) = v := ⟨_, rfl⟩
      have HVE := Lib.hid hve
      rw [hvd] at hst ⊢
      rw [hve] at hst hb0
      generalize (R.limbsOf m)[j]?.getD 0 = lx at c1 hst
      have hBB : R.BB = 4294967296 := by rw [R.BB_pow]
      rw [hBB] at hst
      obtain ⟨vq, hvq⟩ : ∃ v, vd * 4294967296 = v := ⟨_, rfl⟩
      have w1 : IntKind.u64.wrap ((vd : Int) * 4294967296) = (vq : Int) := by rw [IntKind.wrap_u64]; omega
      have w2_ : IntKind.u64.wrap ((vq : Int) + (lx : Int)) = (ve : Int) := by rw [IntKind.wrap_u64]; omega
      have HK1 := Lib.hid (HK.out.step HO1.out)
      clear i0 i1 i2 j0 j1 j2 hc1 hb0 hst hvd hve hvq hBB
      obtain ⟨j0, j1, j2, -, -, -⟩ := HK1.out.c3 0 rfl
      go_wp2_with fail
      go_roundw
      case rel => exact ⟨j, by omega, by rw [HVE.out], rfl, HO1.out⟩
      case measure => simp [intOf]
set_option maxRecDepth 100000 in
theorem rfloat_d {w : World} {a : Value} {x : Dy} {N : Nat} (dir : Int) (u : Nat) (hu : flW (decide (0 ≤ dir)) x = u) (ha : Hid (RD w a x)) (bx : Hid (Bnd N x)) (hN : N ≤ 1000000) : Calls Tryd.prog 51 #[a, .int .i64 dir] w fun e w' => e = .returned (.float .f64 u) ∧ Only [] w w' := by
  have hI := inf_val
  by_cases hz : x.z = 0
  · unfold flW at hu
    rw [if_pos hz] at hu
    subst hu
    exact rfloat_zero dir ha hz
  · have hrng := top_range bx.out (by omega)
    obtain ⟨t, htt⟩ : ∃ t, topD x = t := ⟨_, rfl⟩
    rw [htt] at hrng
    obtain ⟨p1, p2_, p3⟩ := sgn_of hz
    obtain ⟨p, hp⟩ : ∃ p : Int, x.z.sign = p := ⟨_, rfl⟩
    have hp0 : (p == 0) = false := by rw [beq_eq_false_iff_ne, ← hp, p1]; rcases p2_ with h | h <;> rw [h] <;> decide
    obtain ⟨P, hP⟩ : ∃ P : Int, min 53 (t + 1074) = P := ⟨_, rfl⟩
    obtain ⟨s, A, k, c, rfl, hc, hv⟩ := ha.out
    have hs := hc.1
    have haw : (s == decide (dir < 0)) = (decide (x.z < 0) != decide (0 ≤ dir)) := by
      rw [dec_neg dir, hs]
      generalize decide (x.z < 0) = b1
      generalize decide (0 ≤ dir) = b2
      cases b1 <;> cases b2 <;> rfl
    unfold flW at hu
    rw [if_neg hz, htt] at hu
    by_cases hlow : t ≤ -1074
    · rw [if_neg (by omega), if_pos hlow] at hu
      refine rfloat_low dir p t P u _ (Lib.hid hp) hp0 (Lib.hid htt) (by omega) hP (by omega) haw (Lib.hid fun h => ?_) (fun h => ?_) hv (Lib.hid hc) bx (by omega)
      · rw [if_pos h] at hu
        rw [hs]; exact hu
      · rw [if_neg (by rw [h]; decide)] at hu
        exact hu.symm
    · have hP1 : 1 ≤ P ∧ P ≤ 53 := by omega
      obtain ⟨r, hr⟩ : ∃ r, rndD (widthP P) (decide (0 ≤ dir)) x = r := ⟨_, rfl⟩
      have hw : widthP P = (min 53 (topD x + 1074)).toNat := by rw [htt, hP]; unfold widthP; omega
      have hrd := rnd_rd (min 53 (topD x + 1074)).toNat (decide (0 ≤ dir)) x (by omega)
      rw [← hw, hr, hw] at hrd
      have htg := top_ge (by omega) hz hrd
      have BR0 : Bnd (3 * N + 54) r := by rw [← hr]; exact rnd_bnd bx.out (by rw [hw]; omega)
      have hre := rlim_i64 BR0 (by omega)
      obtain ⟨tr, htr⟩ : ∃ tr, topD r = tr := ⟨_, rfl⟩
      have far : 1024 < tr → farW (decide (x.z < 0)) (decide (0 ≤ dir)) = u → Calls Tryd.prog 51 #[.agg #[.bool s, .slice A k c, .int .i64 x.e], .int .i64 dir] w fun e w' => e = .returned (.float .f64 u) ∧ Only [] w w' := fun h1 h2 => by
        refine rfloat_far (N := 3 * N + 54) dir p t P tr u 9218868437227405312 _ r (Lib.hid hp) hp0 (Lib.hid htt) (by omega) hP hP1.1 haw (Lib.hid hr) (Lib.hid BR0) (Lib.hid htr) h1 (Lib.hid rfl) (by decide) (Lib.hid ?_) hv (Lib.hid hc) (Lib.hid (bx.out.mono (by omega))) (by omega)
        rw [← h2, hs]
        unfold farW
        rfl
      obtain ⟨f, ex, hb⟩ := beside x hz
      obtain ⟨m1, m2, m3, m4, -⟩ := mid_spec hz (by omega) hrd hb
      by_cases h3 : 1024 < tr
      · refine far h3 ?_
        by_cases h4 : 1024 < t
        · rw [if_pos h4] at hu; exact hu
        · rw [if_neg h4, if_neg hlow, hP, hr, htr, if_pos h3, m2] at hu
          exact hu
      · rw [if_neg (by omega), if_neg hlow, hP, hr, htr, if_neg h3] at hu
        obtain ⟨m, hm⟩ : ∃ m, r.z.natAbs = m := ⟨_, rfl⟩
        obtain ⟨b, hbb⟩ : ∃ b, bitsN m = b := ⟨_, rfl⟩
        have hm53 : m < 2 ^ 53 := by rw [← hm]; exact m3
        have hb53 : b ≤ 53 := by rw [← hbb]; exact bitsN_le hm53
        have hmb : m < 2 ^ b := by rw [← hbb]; exact bitsN_lt m
        have hm0 : m ≠ 0 := by omega
        obtain ⟨b', q1, q2, q3⟩ := bitsN_spec hm0
        have htd : tr = (b : Int) + r.e := by rw [← htr]; unfold topD; rw [if_neg m1, hm, hbb]
        have hmul : ∀ j i : Nat, b + j ≤ i → m * 2 ^ j < 2 ^ i := fun j i h => by
          have h1 : m * 2 ^ j < 2 ^ b * 2 ^ j := Nat.mul_lt_mul_of_pos_right hmb (Nat.pow_pos (by omega))
          rw [← Nat.pow_add] at h1
          exact Nat.lt_of_lt_of_le h1 (two_mono h)
        unfold exactW at hu
        rw [m2, htr, hm, hbb] at hu
        have go : ∀ (J bb ρ : Nat), (∀ j, j ≤ J → m * 2 ^ j < 9007199254740992) → (∀ j, j < J → m * 2 ^ j < 4503599627370496 ∧ -1074 < r.e - (j : Int)) → ((m * 2 ^ J < 4503599627370496 ∧ r.e - (J : Int) ≤ -1074 ∧ m * 2 ^ J = ρ) ∨ (4503599627370496 ≤ m * 2 ^ J ∧ m * 2 ^ J - 4503599627370496 + bb * 4503599627370496 = ρ ∧ r.e - (J : Int) + 1075 = (bb : Int) ∧ bb ≤ 2046)) → ρ < 9223372036854775808 → bb ≤ 2046 → (J : Int) ≤ 100000 → wordB s ρ = u →
            Calls Tryd.prog 51 #[.agg #[.bool s, .slice A k c, .int .i64 x.e], .int .i64 dir] w fun e w' => e = .returned (.float .f64 u) ∧ Only [] w w' := fun J bb ρ a1 a2 a3 a4 a5 a6 a7 =>
          rfloat_mid (N := 3 * N + 54) dir p t P tr u m J bb ρ _ r (Lib.hid hp) hp0 (Lib.hid htt) (by omega) hP hP1.1 haw (Lib.hid hr) (Lib.hid BR0) (Lib.hid htr) (by omega) (Lib.hid hm) (Lib.hid (by omega)) (Lib.hid a6) (Lib.hid a1) (Lib.hid a2) (Lib.hid fun v hv => by rw [← hv]; exact a1 J (Nat.le_refl _)) (Lib.hid a3) (Lib.hid a4) a5 (Lib.hid a7) hv (Lib.hid hc) (Lib.hid (bx.out.mono (by omega))) (by omega)
        rw [← hs] at hu
        by_cases hn : -1021 ≤ tr
        · rw [if_pos hn] at hu
          have hJ : 4503599627370496 ≤ m * 2 ^ (53 - b) := by
            calc 4503599627370496 = 2 ^ b' * 2 ^ (53 - b) := by rw [← Nat.pow_add, show b' + (53 - b) = 52 by omega]
              _ ≤ _ := Nat.mul_le_mul_right _ q2
          have hJ2 : m * 2 ^ (53 - b) < 9007199254740992 := by have := hmul (53 - b) 53 (by omega); simpa using this
          refine go (53 - b) (tr + 1022).toNat _ (fun j hj => ?_) (fun j hj => ⟨?_, by omega⟩) (.inr ⟨hJ, rfl, by omega, by omega⟩) (by omega) (by omega) (by omega) ?_
          · have := hmul j 53 (by omega); simpa using this
          · have := hmul j 52 (by omega); simpa using this
          · have e : m * 2 ^ (53 - b) - 4503599627370496 + (tr + 1022).toNat * 4503599627370496 = (tr + 1022).toNat * 4503599627370496 + m * 2 ^ (53 - b) % 4503599627370496 := by
              clear hu
              generalize m * 2 ^ (53 - b) = M at *
              omega
            rw [← hu, e]
        · rw [if_neg hn] at hu
          have hJ2 : m * 2 ^ (r.e + 1074).toNat < 4503599627370496 := by have := hmul (r.e + 1074).toNat 52 (by omega); simpa using this
          refine go (r.e + 1074).toNat 0 _ (fun j hj => ?_) (fun j hj => ⟨?_, by omega⟩) (.inl ⟨hJ2, by omega, rfl⟩) (by omega) (by omega) (by omega) hu
          · have := hmul j 53 (by omega); simpa using this
          · have := hmul j 52 (by omega); simpa using this
end Fl
end Go.Proofs.YtgiejjpemhceiaaDoor
