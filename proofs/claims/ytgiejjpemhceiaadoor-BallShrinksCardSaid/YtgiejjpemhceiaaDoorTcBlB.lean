/-
  Balls: Sign, Has.
-/
import Derived.Test.YtgiejjpemhceiaaDoorTcBlA
namespace Go.Proofs.YtgiejjpemhceiaaDoor
set_option linter.unusedSimpArgs false
open Go.RowKit
theorem cmpQ_le {a b : Rat} : cmpQ a b ≤ 0 ↔ a ≤ b := by
  rcases rat_tri a b with h | h | h
  · rw [cmpQ_lt h]; exact ⟨fun _ => by grind, fun _ => by decide⟩
  · rw [cmpQ_eq h]; exact ⟨fun _ => by grind, fun _ => by decide⟩
  · rw [cmpQ_gt h]; exact ⟨fun hc => absurd hc (by decide), fun hc => absurd hc (by grind)⟩
set_option maxHeartbeats 3200000 in
set_option maxRecDepth 100000 in
theorem bsign_b {w : World} {a : Value} {x y : Dy} (p : Int) (ok : Bool) (hp : (if x.z.sign = y.z.sign then x.z.sign else 0) = p) (hok : decide (x.z.sign = y.z.sign) = ok) (ha : Hid (BV w a x y)) : Calls Tryd.prog 33 #[a] w fun e w' => e = .returned (.tuple #[.int .i64 p, .bool ok]) ∧ Only [] w w' := by
  obtain ⟨s1, A1, k1, c1, t1, B1, m1, d1, rfl, hx1, hy1⟩ := ha.out
  have hk := (KB.start w).new 51 [.bool s1, .slice A1 k1 c1, .int .i64 x.e, .bool t1, .slice B1 m1 d1, .int .i64 y.e]
  have HX := Lib.hid (hx1.only hk.only)
  have HY := Lib.hid (hy1.only hk.only)
  obtain ⟨i0, i1, i2, i3, i4, i5⟩ := hk.c6 0 rfl
  have HK := Lib.hid hk
  obtain ⟨sx, hsx⟩ : ∃ q, x.z.sign = q := ⟨_, rfl⟩
  obtain ⟨sy, hsy⟩ : ∃ q, y.z.sign = q := ⟨_, rfl⟩
  rw [hsx, hsy] at hp hok
  have HSx := Lib.hid hsx
  have HSy := Lib.hid hsy
  clear hk hx1 hy1 ha hsx hsy
  go_enter Tryd.func33, Tryd.ntmps33
  go_wp2_with fail
  (with_reducible refine (signV_d sx (DV.of HX) HSx.out).mono ?_)
  rintro e w2 ⟨rfl, ho⟩
  replace HK := Lib.hid (HK.out.step ho)
  replace HY := Lib.hid (HY.out.only ho)
  clear ho i0 i1 i2 i3 i4 i5
  obtain ⟨i0, i1, i2, i3, i4, i5⟩ := HK.out.c6 0 rfl
  go_wp2_with fail
  (with_reducible refine (signV_d sy (DV.of HY) HSy.out).mono ?_)
  rintro e w3 ⟨rfl, ho⟩
  replace HK := Lib.hid (HK.out.step ho)
  clear ho i0 i1 i2 i3 i4 i5
  by_cases h : sx = sy
  · rw [if_pos h] at hp
    rw [decide_eq_true h] at hok
    subst hp hok
    have hb : (sx != sy) = false := by rw [h]; simp
    clear h
    go_wp2_with fail
    go_ret2
    exact ⟨rfl, HK.out.only⟩
  · rw [if_neg h] at hp
    rw [decide_eq_false h] at hok
    subst hp hok
    have hb : (sx != sy) = true := by rw [bne_iff_ne]; exact h
    clear h
    go_wp2_with fail
    go_ret2
    exact ⟨rfl, HK.out.only⟩
end Go.Proofs.YtgiejjpemhceiaaDoor
