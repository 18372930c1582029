/-
  compasslaw4.alive: a first call whose answer is known.
-/
import Derived.Test.YtgiejjpemhceiaaDoorTeFlC
namespace Go.Proofs.YtgiejjpemhceiaaDoor
set_option linter.unusedSimpArgs false
open Go.RowKit

namespace Fl
theorem fl_dyadV (v : Nat) (s : Bool) {r : Nat} (x : Dy) (h : r < INF) (hv : wordB s r = v) (hx : fD s r = x) (w : World) (hT : Hid (Tab6 w)) : Calls Tryd.prog 45 #[.float .f64 v] w (QDPost x true w) := by
  subst hv hx
  exact fl_dyad s h w hT
theorem fd_075 : fD false 4604930618986332160 = ⟨3, -2⟩ := by
  unfold fD
  rw [show mantW 4604930618986332160 = 6755399441055744 by decide, show expoW 4604930618986332160 = 1021 by decide]
  exact nrm_eval 51 1 (by decide)
theorem ru_5 : ru 4617315517961601024 = 5 := by
  unfold ru
  obtain ⟨E, hE⟩ : ∃ E : Nat, E = 1024 := ⟨_, rfl⟩
  rw [show (4617315517961601024 : Nat) = E * 4503599627370496 + 5629499534213120 by rw [hE], NR_base E 5629499534213120 (by decide) (by decide)]
  have e : ((5629499534213120 * 2 ^ E : Nat) : Int) = 5 * 2 ^ (50 + E) := by
    rw [show (5629499534213120 : Nat) = 5 * 2 ^ 50 by decide, Nat.mul_assoc, ← Nat.pow_add]
    push_cast
    rfl
  rw [e]
  have h := q_down 5 0 (50 + E)
  rw [show (0 : Int) - ((50 + E : Nat) : Int) = -1074 by omega] at h
  rw [h]
  have : p2 0 = 1 := by rw [show (0 : Int) = ((0 : Nat) : Int) by rfl, p2_nat]; rfl
  rw [this]
  simp
theorem nrm_5 : nrm 5 0 = ⟨5, 0⟩ := nrm_eval 0 2 (by decide)
theorem flw_5 : flW false ⟨5, 0⟩ = 4617315517961601024 := by
  obtain ⟨f, ex, hb, h1⟩ := flW_spec false (x := ⟨5, 0⟩) (by decide)
  have haq : aq ⟨5, 0⟩ = ru 4617315517961601024 := by
    rw [ru_5]
    unfold aq
    have : p2 0 = 1 := by rw [show (0 : Int) = ((0 : Nat) : Int) by rfl, p2_nat]; rfl
    simp only [this]
    simp
  have h2 := hb.lo
  have h3 := hb.hi
  rw [haq] at h2 h3
  have h4 := ru_le.1 h2
  have h5 := ru_lt.1 h3
  obtain rfl : f = 4617315517961601024 := by omega
  rw [h1]
  cases ex <;> rfl
theorem flw_5' : flW (decide ((0 : Int) ≤ -1)) ⟨5, 0⟩ = 4617315517961601024 := by
  rw [show decide ((0 : Int) ≤ -1) = false from rfl]
  exact flw_5
theorem ord_self (s : Bool) {r : Nat} (h : r ≤ INF) : FloatKind.f64.format.order (wordB s r) (wordB s r) = some .eq := by
  show Ieee.double.order _ _ = _
  rw [ord_rung s s h h, compare_eq_iff.2 rfl]
theorem bnd_5 : Bnd 4 ⟨5, 0⟩ := bnd_s (by decide) (by decide) (by decide)
theorem fin_one (w : World) : Calls Tryd.prog 14 #[.float .f64 4607182418800017408] w fun e w' => e = .returned (.bool true) ∧ w = w' := by
  have h := finite_any 4607182418800017408 (by decide) w
  rwa [show finB 4607182418800017408 = true by decide] at h
theorem fin_inf (u : Nat) (w : World) (hu : 9218868437227405312 = u) : Calls Tryd.prog 14 #[.float .f64 u] w fun e w' => e = .returned (.bool false) ∧ w = w' := by
  subst hu
  have h := finite_any 9218868437227405312 (by decide) w
  rwa [show finB 9218868437227405312 = false by decide] at h
set_option maxHeartbeats 1600000 in
set_option maxRecDepth 100000 in
theorem alive4_any (w : World) (htab : Hid (Tab w)) (hT : Hid (Tab6 w)) : Calls Tryd.prog 43 #[] w fun e w' => e = .returned (.bool true) ∧ Only [] w w' := by
  have HE := Lib.hid (DB.start w)
  have ho5 : FloatKind.f64.format.order 4617315517961601024 4617315517961601024 = some .eq := ord_self false (by decide)
  go_enter Tryd.func43, Tryd.ntmps43
  go_wp2_with fail
  (with_reducible refine (fl_dyadV 4604930618986332160 false ⟨3, -2⟩ (by decide) rfl fd_075 _ hT).mono ?_)
  rintro e w1 ⟨s3, A3, k3, c3, rfl, -, -, hv, ho⟩
  replace HE := Lib.hid ((HE.out.step ho).new hv)
  clear hv ho
  obtain ⟨p0, p1, p2', -, -, -⟩ := DB.cells HE 0 rfl
  go_wp2_with fail
  (with_reducible refine (text_w (DB.iv HE 0 rfl) (Lib.hid (htab.out.only HE.out.only)) (by rw [show Int.natAbs (Dy.z ⟨3, -2⟩) = 3 from rfl, dec_3]; decide)).mono ?_)
  rintro e w4 ⟨rfl, ho⟩
  rw [show Int.natAbs (Dy.z ⟨3, -2⟩) = 3 from rfl, dec_3]
  replace HE := Lib.hid (HE.out.step ho)
  clear ho p0 p1 p2'
  go_wp2_with fail
  (with_reducible refine (ofV_d 5 ⟨5, 0⟩ _ nrm_5 (Lib.hid (by omega)) (Lib.hid (hT.out.keep HE.out.only))).mono ?_)
  rintro e w5 ⟨s5, A5, k5, c5, rfl, -, -, hv, ho⟩
  replace HE := Lib.hid (HE.out.step ho)
  have HV5 := Lib.hid hv
  clear hv ho
  go_wp2_with fail
  (with_reducible refine (float_d (-1) 4617315517961601024 flw_5' (DV.of HV5) (Lib.hid bnd_5) (by omega) (Lib.hid (hT.out.keep HE.out.only))).mono ?_)
  rintro e w6 ⟨rfl, ho⟩
  replace HE := Lib.hid (HE.out.step ho)
  clear ho HV5
  go_wp2_with fail
  (with_reducible refine (fin_one _).mono ?_)
  rintro e w7 ⟨rfl, rfl⟩
  go_wp2_with fail
  (with_reducible refine (infp_any _ _ (Lib.hid rfl)).mono ?_)
  rintro e w7 ⟨rfl, rfl⟩
  go_wp2_with fail
  (with_reducible refine (fin_inf _ _ rfl).mono ?_)
  rintro e w7 ⟨rfl, rfl⟩
  go_wp2_with fail
  go_ret
  exact ⟨rfl, HE.out.only⟩
end Fl
end Go.Proofs.YtgiejjpemhceiaaDoor
