/-
  Whole numbers: digits.
-/
import Derived.Test.YtphjcphcgnjogaaDoorWhC
namespace Go.Proofs.YtphjcphcgnjogaaDoor
open Go.RowKit
set_option linter.unusedSimpArgs false

set_option maxHeartbeats 800000 in
theorem text_w {w : World} {a : Value} {z : Int} (ha : Hid (IV w a z)) (htab : Hid (Tab w)) (hd : (Lib.decDigits z.natAbs).length ≤ 1000000) : Calls Tryd.prog 20 #[a] w fun e w' => e = .returned (.string ⟨((if z < 0 then [45] else []) ++ Lib.decDigits z.natAbs).toArray⟩) ∧ Only [] w w' := by
  obtain ⟨s, A, k, c, rfl, hs⟩ := ha.out.form
  have ho0 : Only [] w (w.alloc (.cells #[.bool s, .slice A k c] 27)) := (Only.refl [] w).alloc _
  have HX := Lib.hid (ha.out.only ho0)
  have hB := Blk.new w 27 [.bool s, .slice A k c]
  have HO0 := Lib.hid ho0
  have HT := Lib.hid (htab.out.only ho0)
  have hsg := sign_of z
  clear ha hs ho0
  by_cases h0 : z < 0
  · rw [if_pos h0]
    have hs1 : z.sign = -1 := by omega
    have hd1 : ¬ 9223372036854775807 < 1 + (Lib.decDigits z.natAbs).length := by omega
    go_enter Tryd.func20, Tryd.ntmps20
    go_wp2_with fail
    (with_reducible refine (sign_w HX).mono ?_)
    rintro e w2 ⟨rfl, ho⟩
    rw [hs1]
    have hB2 := hB.only ho (by simp)
    have c0 := hB2.cell 0
    have c1' := hB2.cell 1
    simp only [List.getElem?_cons_zero, List.getElem?_cons_succ] at c0 c1'
    have HM := Lib.hid (HX.out.mag.only ho)
    have HT2 := Lib.hid (HT.out.only ho)
    have HO2 := Lib.hid (HO0.out.nil_trans ho)
    clear ho hsg hs1 h0
    go_wp2_with fail
    (with_reducible refine (text_v HM HT2).mono ?_)
    rintro e w3 ⟨rfl, ho⟩
    have HO3 := Lib.hid (HO2.out.nil_trans ho)
    clear ho
    go_wp2_with fail
    go_ret
    exact ⟨rfl, HO3.out⟩
  · rw [if_neg h0, List.nil_append]
    obtain ⟨p, hpz⟩ : ∃ p, z.sign = p := ⟨_, rfl⟩
    have hs1 : ¬ p < 0 := by omega
    replace hpz := Lib.hid hpz
    go_enter Tryd.func20, Tryd.ntmps20
    go_wp2_with fail
    (with_reducible refine (sign_w HX).mono ?_)
    rintro e w2 ⟨rfl, ho⟩
    rw [hpz.out]
    have hB2 := hB.only ho (by simp)
    have c0 := hB2.cell 0
    have c1' := hB2.cell 1
    simp only [List.getElem?_cons_zero, List.getElem?_cons_succ] at c0 c1'
    have HM := Lib.hid (HX.out.mag.only ho)
    have HT2 := Lib.hid (HT.out.only ho)
    have HO2 := Lib.hid (HO0.out.nil_trans ho)
    clear ho hsg h0
    go_wp2_with fail
    (with_reducible refine (text_v HM HT2).mono ?_)
    rintro e w3 ⟨rfl, ho⟩
    have HO3 := Lib.hid (HO2.out.nil_trans ho)
    clear ho
    go_wp2_with fail
    go_ret
    exact ⟨rfl, HO3.out⟩
end Go.Proofs.YtphjcphcgnjogaaDoor
