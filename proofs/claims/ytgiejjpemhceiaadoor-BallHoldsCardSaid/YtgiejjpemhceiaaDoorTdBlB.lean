/-
  Balls: Sign, Has.
-/
import Derived.Test.YtgiejjpemhceiaaDoorTdBlA
namespace Go.Proofs.YtgiejjpemhceiaaDoor
set_option linter.unusedSimpArgs false
open Go.RowKit
theorem cmpQ_le {a b : Rat} : cmpQ a b ≤ 0 ↔ a ≤ b := by
  rcases rat_tri a b with h | h | h
  · rw [cmpQ_lt h]; exact ⟨fun _ => by grind, fun _ => by decide⟩
  · rw [cmpQ_eq h]; exact ⟨fun _ => by grind, fun _ => by decide⟩
  · rw [cmpQ_gt h]; exact ⟨fun hc => absurd hc (by decide), fun hc => absurd hc (by grind)⟩
set_option maxHeartbeats 3200000 in
set_option maxRecDepth 100000 in
theorem bsign_b {w : World} {a : Value} {x y : Dy} (p : Int) (ok : Bool) (hp : (if x.z.sign = y.z.sign then x.z.sign else 0) = p) (hok : decide (x.z.sign = y.z.sign) = ok) (ha : Hid (BV w a x y)) : Calls Tryd.prog 33 #[a] w fun e w' => e = .returned (.tuple #[.int .i64 p, .bool ok]) ∧ Only [] w w' := by
  obtain ⟨s1, A1, k1, c1, t1, B1, m1, d1, rfl, hx1, hy1⟩ := ha.out
  have hk := (KB.start w).new 51 [.bool s1, .slice A1 k1 c1, .int .i64 x.e, .bool t1, .slice B1 m1 d1, .int .i64 y.e]
  have HX := Lib.hid (hx1.only hk.only)
  have HY := Lib.hid (hy1.only hk.only)
  obtain ⟨i0, i1, i2, i3, i4, i5⟩ := hk.c6 0 rfl
  have HK := Lib.hid hk
  obtain ⟨sx, hsx⟩ : ∃ q, x.z.sign = q := ⟨_, rfl⟩
  obtain ⟨sy, hsy⟩ : ∃ q, y.z.sign = q := ⟨_, rfl⟩
  rw [hsx, hsy] at hp hok
  have HSx := Lib.hid hsx
  have HSy := Lib.hid hsy
  clear hk hx1 hy1 ha hsx hsy
  go_enter Tryd.func33, Tryd.ntmps33
  go_wp2_with fail
  (with_reducible refine (signV_d sx (DV.of HX) HSx.out).mono ?_)
  rintro e w2 ⟨rfl, ho⟩
  replace HK := Lib.hid (HK.out.step ho)
  replace HY := Lib.hid (HY.out.only ho)
  clear ho i0 i1 i2 i3 i4 i5
  obtain ⟨i0, i1, i2, i3, i4, i5⟩ := HK.out.c6 0 rfl
  go_wp2_with fail
  (with_reducible refine (signV_d sy (DV.of HY) HSy.out).mono ?_)
  rintro e w3 ⟨rfl, ho⟩
  replace HK := Lib.hid (HK.out.step ho)
  clear ho i0 i1 i2 i3 i4 i5
  by_cases h : sx = sy
  · rw [if_pos h] at hp
    rw [decide_eq_true h] at hok
    subst hp hok
    have hb : (sx != sy) = false := by rw [h]; simp
    clear h
    go_wp2_with fail
    go_ret2
    exact ⟨rfl, HK.out.only⟩
  · rw [if_neg h] at hp
    rw [decide_eq_false h] at hok
    subst hp hok
    have hb : (sx != sy) = true := by rw [bne_iff_ne]; exact h
    clear h
    go_wp2_with fail
    go_ret2
    exact ⟨rfl, HK.out.only⟩
set_option maxHeartbeats 3200000 in
set_option maxRecDepth 100000 in
theorem has_b {w : World} {a b : Value} {x y z : Dy} {N : Nat} (r : Bool) (hr : (decide (x.q ≤ z.q) && decide (z.q ≤ y.q)) = r) (ha : Hid (BV w a x y)) (hb : Hid (DV w b z)) (bx : Hid (Bnd N x)) (by_ : Hid (Bnd N y)) (bz : Hid (Bnd N z)) (hN : N ≤ 2000000) : Calls Tryd.prog 36 #[a, b] w fun e w' => e = .returned (.bool r) ∧ Only [] w w' := by
  obtain ⟨s1, A1, k1, c1, t1, B1, m1, d1, rfl, hx1, hy1⟩ := ha.out
  obtain ⟨s2, A2, k2, c2, rfl, hz⟩ := hb.out
  have hk := ((KB.start w).new 51 [.bool s1, .slice A1 k1 c1, .int .i64 x.e, .bool t1, .slice B1 m1 d1, .int .i64 y.e]).new 37 [.bool s2, .slice A2 k2 c2, .int .i64 z.e]
  simp only [World.size_alloc] at hk
  have HX := Lib.hid (hx1.only hk.only)
  have HY := Lib.hid (hy1.only hk.only)
  have HZ := Lib.hid (hz.only hk.only)
  obtain ⟨i0, i1, i2, i3, i4, i5⟩ := hk.c6 1 rfl
  obtain ⟨j0, j1, j2, -, -, -⟩ := hk.c3 0 rfl
  have HK := Lib.hid hk
  obtain ⟨c1', h1⟩ : ∃ q, cmpQ x.q z.q = q := ⟨_, rfl⟩
  obtain ⟨c2', h2⟩ : ∃ q, cmpQ z.q y.q = q := ⟨_, rfl⟩
  have e1 : decide (x.q ≤ z.q) = decide (c1' ≤ 0) := by rw [← h1]; exact decide_eq_decide.2 cmpQ_le.symm
  have e2 : decide (z.q ≤ y.q) = decide (c2' ≤ 0) := by rw [← h2]; exact decide_eq_decide.2 cmpQ_le.symm
  rw [e1, e2] at hr
  have H1 := Lib.hid h1
  have H2 := Lib.hid h2
  clear hk hx1 hy1 hz ha hb h1 h2 e1 e2
  go_enter Tryd.func36, Tryd.ntmps36
  go_wp2_with fail
  (with_reducible refine (cmpV_d c1' (DV.of HX) (DV.of HZ) bx bz hN H1.out).mono ?_)
  rintro e w2 ⟨rfl, ho⟩
  replace HK := Lib.hid (HK.out.step ho)
  replace HY := Lib.hid (HY.out.only ho)
  replace HZ := Lib.hid (HZ.out.only ho)
  clear ho i0 i1 i2 i3 i4 i5 j0 j1 j2
  obtain ⟨i0, i1, i2, i3, i4, i5⟩ := HK.out.c6 1 rfl
  obtain ⟨j0, j1, j2, -, -, -⟩ := HK.out.c3 0 rfl
  by_cases h : c1' ≤ 0
  · rw [decide_eq_true h, Bool.true_and] at hr
    go_wp2_with fail
    (with_reducible refine (cmpV_d c2' (DV.of HZ) (DV.of HY) bz by_ hN H2.out).mono ?_)
    rintro e w3 ⟨rfl, ho⟩
    replace HK := Lib.hid (HK.out.step ho)
    clear ho
    go_wp2_with fail
    go_ret
    exact ⟨rfl, HK.out.only⟩
  · rw [decide_eq_false h, Bool.false_and] at hr
    subst hr
    go_wp2_with fail
    go_ret
    exact ⟨rfl, HK.out.only⟩

end Go.Proofs.YtgiejjpemhceiaaDoor
