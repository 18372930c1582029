/-
  nat.Sqrt.
-/
import Derived.Test.YtphjcphcgnjogaaDoorNatR
import Derived.Test.YtphjcphcgnjogaaDoorNatF
namespace Go.Proofs.YtphjcphcgnjogaaDoor
open Go.RowKit

/-- What Sqrt leaves. -/
def SqrtPost (a : Nat) (w : World) (e : Ending) (w' : World) : Prop :=
  ∃ u v, e = .returned (.tuple #[u, v]) ∧ Res w w' u (rootN a) ∧ Res w w' v (a - rootN a * rootN a) ∧ (∀ g g', u.ownBlock = some g → v.ownBlock = some g' → g ≠ g') ∧ Only [] w w'
set_option maxHeartbeats 800000 in
theorem sqrt_any (A : Option Addr) (c : Nat) (xs : List Nat) (w : World) (hA : Hid (Arg w A xs)) (hc : xs.length ≤ c) (hl : (xs.length : Int) ≤ 1000000) :
    Calls Tryd.prog 57 #[.slice A xs.length c] w (SqrtPost (val xs) w) := by
  have HA := Lib.hid hA.out.trim
  obtain ⟨q, hq⟩ : ∃ q, (limbsOf (val xs)).length = q := ⟨_, rfl⟩
  have HQ := Lib.hid hq
  have HQx : Hid ((limbsOf (val xs)).length ≤ xs.length) := limbsOf_len hA.out.limb
  have hql : (q : Int) ≤ 1000000 := by have := HQx.out; omega
  go_enter Tryd.func57, Tryd.ntmps57
  go_wp2_with fail
  (with_reducible refine (trim_any A c xs _ hA hc).mono ?_)
  rintro e w' ⟨rfl, rfl⟩
  rw [hq]
  go_wp2_with fail
  have hr := root_any A c (limbsOf (val xs)) w HA (by have := HQx.out; omega) (Lib.hid (canon_limbsOf _)) (by omega)
  rw [hq, val_limbsOf] at hr
  refine hr.mono ?_
  clear hr
  rintro e w1 ⟨u, rfl, hu, ho1⟩
  obtain ⟨R, hR⟩ : ∃ R, rootN (val xs) = R := ⟨_, rfl⟩
  have HR := Lib.hid hR
  rw [hR] at hu
  have HRR : Hid (R * R ≤ val xs) := by have := (rootN_is (val xs)).1; rw [hR] at this; exact this
  have HRn : Hid ((limbsOf R).length ≤ q) := by
    show _ ≤ _
    rw [← hq]
    exact limbsOf_len_mono (Nat.le_trans (Nat.le_mul_self R) HRR.out)
  have HSn : Hid ((limbsOf (R * R)).length ≤ q) := by
    show _ ≤ _
    rw [← hq]
    exact limbsOf_len_mono HRR.out
  have HU := Lib.hid hu
  obtain ⟨Ar, cr, qr, rfl, hqr, hqcr, hAr, hfr⟩ := hu.shape2 (by have := HRn.out; omega)
  have HO1 := Lib.hid ho1
  have HAr := Lib.hid hAr
  have HFr := Lib.hid hfr
  have HQr := Lib.hid hqr
  clear hu ho1 hAr hfr hqr hR
  go_wp2_with fail
  have hm := nmul_any 40 (by omega) Ar Ar cr cr (limbsOf R) (limbsOf R) w1 HAr HAr (by rw [HQr.out]; exact hqcr) (by rw [HQr.out]; exact hqcr) (by have := HRn.out; omega)
  rw [HQr.out, val_limbsOf] at hm
  refine hm.mono ?_
  clear hm
  rintro e w2 ⟨um, rfl, hm2, ho2⟩
  obtain ⟨Am, cm, qm, rfl, hqm, hqcm, hAm, hfm⟩ := hm2.shape2 (by have := HSn.out; omega)
  have HO2 := Lib.hid ho2
  have HAm := Lib.hid hAm
  have HQm := Lib.hid hqm
  have HA2 := Lib.hid ((HA.out.only HO1.out).only ho2)
  clear hm2 ho2 hAm hfm hqm
  go_wp2_with fail
  have hs := nsub_any A Am c cm (limbsOf (val xs)) (limbsOf (R * R)) w2 HA2 HAm (by have := HSn.out; omega) (by omega) (by show _ ≤ _; rw [val_limbsOf, val_limbsOf]; exact HRR.out)
  rw [HQ.out, HQm.out, val_limbsOf, val_limbsOf] at hs
  refine hs.mono ?_
  clear hs
  rintro e w3 ⟨v, rfl, hv, ho3⟩
  have HV := Lib.hid hv
  have HO3 := Lib.hid ho3
  clear hv ho3
  go_wp2_with fail
  go_ret2
  refine ⟨_, v, rfl, ?_, ?_, ?_, (HO1.out.nil_trans HO2.out).nil_trans HO3.out⟩
  · rw [HR.out]
    exact (HU.out.nil HO2.out).nil HO3.out
  · rw [HR.out]
    exact HV.out.pre (HO1.out.nil_trans HO2.out).size
  · intro g g' hg hg'
    have h1 := HU.out.at_.lt g hg
    have h2 := HV.out.fresh g' hg'
    have h3 := HO2.out.size
    omega
end Go.Proofs.YtphjcphcgnjogaaDoor
