/-
  Balls: Quo, whatever comes in; compasslaw5.alive.
-/
import Derived.Test.YtgiejjpemhceiaaDoorTdBlQ
namespace Go.Proofs.YtgiejjpemhceiaaDoor
set_option linter.unusedSimpArgs false
open Go.RowKit

def minD (a b : Dy) : Dy := if b.q < a.q then b else a
def maxD (a b : Dy) : Dy := if a.q < b.q then b else a
def qLo (P : Nat) (x y u v : Dy) : Dy := minD (minD (minD (quoQ P false x u) (quoQ P false x v)) (quoQ P false y u)) (quoQ P false y v)
def qHi (P : Nat) (x y u v : Dy) : Dy := maxD (maxD (maxD (quoQ P true x u) (quoQ P true x v)) (quoQ P true y u)) (quoQ P true y v)
theorem cmpQ_lt0 {a b : Rat} : cmpQ a b < 0 ↔ a < b := by
  rcases rat_tri a b with h | h | h
  · rw [cmpQ_lt h]; exact ⟨fun _ => h, fun _ => by decide⟩
  · rw [cmpQ_eq h]; exact ⟨fun hc => absurd hc (by decide), fun hc => absurd hc (by grind)⟩
  · rw [cmpQ_gt h]; exact ⟨fun hc => absurd hc (by decide), fun hc => absurd hc (by grind)⟩
theorem cmpQ_gt0 {a b : Rat} : 0 < cmpQ a b ↔ b < a := by
  rcases rat_tri a b with h | h | h
  · rw [cmpQ_lt h]; exact ⟨fun hc => absurd hc (by decide), fun hc => absurd hc (by grind)⟩
  · rw [cmpQ_eq h]; exact ⟨fun hc => absurd hc (by decide), fun hc => absurd hc (by grind)⟩
  · rw [cmpQ_gt h]; exact ⟨fun _ => h, fun _ => by decide⟩
theorem minD_pick (a b : Dy) : (cmpQ b.q a.q < 0 → b = minD a b) ∧ (¬ cmpQ b.q a.q < 0 → a = minD a b) := by
  rw [cmpQ_lt0]
  unfold minD
  exact ⟨fun h => by rw [if_pos h], fun h => by rw [if_neg h]⟩
theorem maxD_pick (a b : Dy) : (0 < cmpQ b.q a.q → b = maxD a b) ∧ (¬ 0 < cmpQ b.q a.q → a = maxD a b) := by
  rw [cmpQ_gt0]
  unfold maxD
  exact ⟨fun h => by rw [if_pos h], fun h => by rw [if_neg h]⟩
theorem minD_bnd {N : Nat} {a b : Dy} (h : Bnd N a) (h' : Bnd N b) : Bnd N (minD a b) := by unfold minD; split <;> assumption
theorem maxD_bnd {N : Nat} {a b : Dy} (h : Bnd N a) (h' : Bnd N b) : Bnd N (maxD a b) := by unfold maxD; split <;> assumption
theorem bquo_b {w : World} {a b : Value} {x y u v : Dy} {N : Nat} (p : Int) (lo hi : Dy) (hlo : qLo (widthP p) x y u v = lo) (hhi : qHi (widthP p) x y u v = hi) (hs : u.z.sign = v.z.sign) (h0 : u.z ≠ 0) (ha : Hid (BV w a x y)) (hb : Hid (BV w b u v)) (bx : Hid (Bnd N x)) (by_ : Hid (Bnd N y)) (bu : Hid (Bnd N u)) (bv : Hid (Bnd N v)) (hN : N ≤ 100000) (hT : Hid (Tab6 w)) : Calls Tryd.prog 42 #[a, b, .int .i64 p] w (QBPost lo hi true w) := by
  subst hlo hhi
  obtain ⟨P, hP⟩ : ∃ P, widthP p = P := ⟨_, rfl⟩
  have hPr := widthP_range p
  rw [hP] at hPr
  have hb' : ∀ (up : Bool) (a b : Dy), Bnd N a → Bnd N b → Bnd (15 * N + 7 * P + 19) (quoQ (widthP p) up a b) := fun up a b ha hb => quoQ_bnd ha hb (by rw [hP]; exact Nat.le_refl _)
  have hv0 : v.z ≠ 0 := fun hc => by rw [hc] at hs; exact h0 (Int.sign_eq_zero_iff_zero.1 hs)
  have f0 := hb' false x u bx.out bu.out
  have f1 := hb' false x v bx.out bv.out
  have f2 := hb' false y u by_.out bu.out
  have f3 := hb' false y v by_.out bv.out
  have t0 := hb' true x u bx.out bu.out
  have t1 := hb' true x v bx.out bv.out
  have t2 := hb' true y u by_.out bu.out
  have t3 := hb' true y v by_.out bv.out
  exact bquo_core (M := 15 * N + 7 * P + 19) p _ _ _ _ _ _ _ _ _ _ _ _ _ _ _ _ _ _ _ _ (Lib.hid rfl) (Lib.hid rfl) (Lib.hid rfl) (Lib.hid rfl) (Lib.hid rfl) (Lib.hid rfl) (Lib.hid rfl) (Lib.hid rfl)
    (Lib.hid rfl) (Lib.hid (minD_pick _ _)) (Lib.hid rfl) (Lib.hid (maxD_pick _ _)) (Lib.hid rfl) (Lib.hid (minD_pick _ _)) (Lib.hid rfl) (Lib.hid (maxD_pick _ _)) (Lib.hid rfl) (Lib.hid (minD_pick _ _)) (Lib.hid rfl) (Lib.hid (maxD_pick _ _))
    _ (Lib.hid hs) (Lib.hid rfl) (by rw [beq_eq_false_iff_ne]; exact fun hc => hv0 (Int.sign_eq_zero_iff_zero.1 hc)) (Lib.hid (by simpa using h0)) (Lib.hid (by simpa using hv0))
    (Lib.hid f1) (Lib.hid f2) (Lib.hid f3) (Lib.hid t1) (Lib.hid t2) (Lib.hid t3) (Lib.hid f0) (Lib.hid (minD_bnd f0 f1)) (Lib.hid (minD_bnd (minD_bnd f0 f1) f2)) (Lib.hid t0) (Lib.hid (maxD_bnd t0 t1)) (Lib.hid (maxD_bnd (maxD_bnd t0 t1) t2)) ha hb bx by_ bu bv hN (by omega) hT
set_option maxHeartbeats 8000000 in
set_option maxRecDepth 100000 in
theorem bquo_no {w : World} {a b : Value} {x y u v : Dy} (p : Int) (h : u.z.sign = v.z.sign → u.z.sign = 0) (ha : Hid (BV w a x y)) (hb : Hid (BV w b u v)) : Calls Tryd.prog 42 #[a, b, .int .i64 p] w (QBPost ⟨0, 0⟩ ⟨0, 0⟩ false w) := by
  obtain ⟨s1, A1, k1, c1, t1, B1, m1, d1, rfl, hx1, hy1⟩ := ha.out
  obtain ⟨s2, A2, k2, c2, t2, B2, m2, d2, rfl, hx2, hy2⟩ := hb.out
  have HB2 : Hid (BV w (.agg #[.bool s2, .slice A2 k2 c2, .int .i64 u.e, .bool t2, .slice B2 m2 d2, .int .i64 v.e]) u v) := hb
  have hk := (((KB.start w).new 51 [.bool s1, .slice A1 k1 c1, .int .i64 x.e, .bool t1, .slice B1 m1 d1, .int .i64 y.e]).new 51 [.bool s2, .slice A2 k2 c2, .int .i64 u.e, .bool t2, .slice B2 m2 d2, .int .i64 v.e]).new 51 [.bool false, .slice none 0 0, .int .i64 0, .bool false, .slice none 0 0, .int .i64 0]
  simp only [World.size_alloc] at hk
  replace HB2 := Lib.hid (HB2.out.only hk.only)
  have HK := Lib.hid hk
  clear hk hx1 hy1 hx2 hy2 ha hb
  obtain ⟨j0, j1, j2, j3, j4, j5⟩ := HK.out.c6 1 rfl
  obtain ⟨sv, hsv⟩ : ∃ sv, (if u.z.sign = v.z.sign then u.z.sign else 0) = sv := ⟨_, rfl⟩
  obtain ⟨ok, hok⟩ : ∃ ok, decide (u.z.sign = v.z.sign) = ok := ⟨_, rfl⟩
  have hsv0 : ok = true → sv = 0 := fun hc => by
    rw [← hok] at hc
    have h1 : u.z.sign = v.z.sign := by simpa using hc
    rw [← hsv, if_pos h1]
    exact h h1
  have HS := Lib.hid hsv
  have HO := Lib.hid hok
  clear hsv hok h
  go_enter Tryd.func42, Tryd.ntmps42
  go_wp2_with fail
  (with_reducible refine (bsign_b sv ok HS.out HO.out HB2).mono ?_)
  rintro e w3 ⟨rfl, ho⟩
  replace HK := Lib.hid (HK.out.step ho)
  clear ho j0 j1 j2 j3 j4 j5 HB2
  obtain ⟨q0, q1, q2, q3, q4, q5⟩ := HK.out.c6 0 rfl
  obtain ⟨f0, f1, f2, f3, f4, f5⟩ := HK.out.f6 0 rfl
  cases ok
  · clear hsv0
    go_wp2_with fail
    refine bodyPost_ret (v := .tuple #[.agg #[.bool false, .slice none 0 0, .int .i64 (0), .bool false, .slice none 0 0, .int .i64 (0)], .bool false]) (by simp [results, Tryd.results42, go_sem, q0, q1, q2, q3, q4, q5]) rfl ?_
    exact qbfin (x := ⟨0, 0⟩) (y := ⟨0, 0⟩) (Lib.hid cn_zero) (Lib.hid (IV.zero _)) (Lib.hid cn_zero) (Lib.hid (IV.zero _)) (by omega) (HK.out.blk 0 rfl) (noLimb6 _ _ _ _ _ _ _ _ _ _) HK.out.only (only_set6 _ _ _ _ _ _ _ _)
  · have h1 := hsv0 rfl
    subst h1
    clear hsv0
    go_wp2_with fail
    refine bodyPost_ret (v := .tuple #[.agg #[.bool false, .slice none 0 0, .int .i64 (0), .bool false, .slice none 0 0, .int .i64 (0)], .bool false]) (by simp [results, Tryd.results42, go_sem, q0, q1, q2, q3, q4, q5]) rfl ?_
    exact qbfin (x := ⟨0, 0⟩) (y := ⟨0, 0⟩) (Lib.hid cn_zero) (Lib.hid (IV.zero _)) (Lib.hid cn_zero) (Lib.hid (IV.zero _)) (by omega) (HK.out.blk 0 rfl) (noLimb6 _ _ _ _ _ _ _ _ _ _) HK.out.only (only_set6 _ _ _ _ _ _ _ _)

theorem quo_down3 : quoQ (widthP 2) false ⟨1, 0⟩ ⟨3, 0⟩ = ⟨1, -2⟩ := q_lo3
theorem quo_up3 : quoQ (widthP 2) true ⟨1, 0⟩ ⟨3, 0⟩ = ⟨3, -3⟩ := q_hi3
theorem minD_self (a : Dy) : minD a a = a := by unfold minD; split <;> rfl
theorem maxD_self (a : Dy) : maxD a a = a := by unfold maxD; split <;> rfl
theorem qlo_13 : qLo (widthP 2) ⟨1, 0⟩ ⟨1, 0⟩ ⟨3, 0⟩ ⟨3, 0⟩ = ⟨1, -2⟩ := by unfold qLo; rw [quo_down3]; simp only [minD_self]
theorem qhi_13 : qHi (widthP 2) ⟨1, 0⟩ ⟨1, 0⟩ ⟨3, 0⟩ ⟨3, 0⟩ = ⟨3, -3⟩ := by unfold qHi; rw [quo_up3]; simp only [maxD_self]
theorem atV_b {w : World} {a : Value} {x : Dy} {N : Nat} (r : Dy) (hr : nrm x.z x.e = r) (ha : Hid (DV w a x)) (bx : Hid (Bnd N x)) (hN : N ≤ 8000000) (hT : Hid (Tab6 w)) : Calls Tryd.prog 37 #[a] w (BPost r r w) := hr ▸ at_b ha bx hN hT
theorem bnd_1 : Bnd 4 ⟨1, 0⟩ := bnd_s (by decide) (by decide) (by decide)
theorem bnd_3 : Bnd 4 ⟨3, 0⟩ := bnd_s (by decide) (by decide) (by decide)
theorem cmp_31 : cmpQ (Dy.q ⟨3, 0⟩) (Dy.q ⟨1, 0⟩) = 1 := by
  show cmpQ (((3 : Int) : Rat) * p2 0) (((1 : Int) : Rat) * p2 0) = 1
  rw [cmpQ_at]
  decide
set_option maxHeartbeats 8000000 in
set_option maxRecDepth 100000 in
theorem alive5_any (w : World) (hT : Hid (Tab6 w)) : Calls Tryd.prog 31 #[] w fun e w' => e = .returned (.bool true) ∧ Only [] w w' := by
  have HK := Lib.hid (KB.start w)
  go_enter Tryd.func31, Tryd.ntmps31
  go_wp2_with fail
  (with_reducible refine (ofV_d 1 ⟨1, 0⟩ _ nrm_1 (Lib.hid (by omega)) (Lib.hid (hT.out.keep HK.out.only))).mono ?_)
  rintro e w1 ⟨s1, A1, k1, c1, rfl, -, -, hv, ho⟩
  replace HK := Lib.hid (HK.out.step ho)
  have HV1 : Hid (DV w1 (.agg #[.bool s1, .slice A1 k1 c1, .int .i64 0]) ⟨1, 0⟩) := DV.of (Lib.hid hv)
  clear hv ho
  go_wp2_with fail
  (with_reducible refine (atV_b ⟨1, 0⟩ nrm_1 HV1 (Lib.hid bnd_1) (by omega) (Lib.hid (hT.out.keep HK.out.only))).mono ?_)
  rintro e w2 ⟨s2, A2, k2, c2, t2, B2, m2, d2, rfl, -, hv1, -, hv2, ho⟩
  replace HK := Lib.hid (HK.out.step ho)
  have HB2 : Hid (BV w2 (.agg #[.bool s2, .slice A2 k2 c2, .int .i64 0, .bool t2, .slice B2 m2 d2, .int .i64 0]) ⟨1, 0⟩ ⟨1, 0⟩) := ⟨_, _, _, _, _, _, _, _, rfl, hv1, hv2⟩
  clear hv1 hv2 ho
  clear HV1
  go_wp2_with fail
  (with_reducible refine (ofV_d 3 ⟨3, 0⟩ _ nrm_3 (Lib.hid (by omega)) (Lib.hid (hT.out.keep HK.out.only))).mono ?_)
  rintro e w3 ⟨s3, A3, k3, c3, rfl, -, -, hv, ho⟩
  replace HK := Lib.hid (HK.out.step ho)
  replace HB2 := Lib.hid (HB2.out.only ho)
  have HV3 : Hid (DV w3 (.agg #[.bool s3, .slice A3 k3 c3, .int .i64 0]) ⟨3, 0⟩) := DV.of (Lib.hid hv)
  clear hv ho
  go_wp2_with fail
  (with_reducible refine (atV_b ⟨3, 0⟩ nrm_3 HV3 (Lib.hid bnd_3) (by omega) (Lib.hid (hT.out.keep HK.out.only))).mono ?_)
  rintro e w4 ⟨s4, A4, k4, c4, t4, B4, m4, d4, rfl, -, hv1, -, hv2, ho⟩
  replace HK := Lib.hid (HK.out.step ho)
  replace HB2 := Lib.hid (HB2.out.only ho)
  have HB4 : Hid (BV w4 (.agg #[.bool s4, .slice A4 k4 c4, .int .i64 0, .bool t4, .slice B4 m4 d4, .int .i64 0]) ⟨3, 0⟩ ⟨3, 0⟩) := ⟨_, _, _, _, _, _, _, _, rfl, hv1, hv2⟩
  clear hv1 hv2 ho
  clear HV3
  go_wp2_with fail
  (with_reducible refine (bquo_b 2 ⟨1, -2⟩ ⟨3, -3⟩ qlo_13 qhi_13 rfl (by decide) HB2 HB4 (Lib.hid bnd_1) (Lib.hid bnd_1) (Lib.hid bnd_3) (Lib.hid bnd_3) (by omega) (Lib.hid (hT.out.keep HK.out.only))).mono ?_)
  rintro e w5 ⟨s5, A5, k5, c5, t5, B5, m5, d5, rfl, -, -, -, -, ho⟩
  have hk := (HK.out.step ho).new 51 [.bool s5, .slice A5 k5 c5, .int .i64 (-2), .bool t5, .slice B5 m5 d5, .int .i64 (-3)]
  replace HK := Lib.hid hk
  clear ho hk HB2 HB4
  go_wp2_with fail
  (with_reducible refine (ofV_d 3 ⟨3, 0⟩ _ nrm_3 (Lib.hid (by omega)) (Lib.hid (hT.out.keep HK.out.only))).mono ?_)
  rintro e w6 ⟨s6, A6, k6, c6, rfl, -, -, hv, ho⟩
  replace HK := Lib.hid (HK.out.step ho)
  have HV6 : Hid (DV w6 (.agg #[.bool s6, .slice A6 k6 c6, .int .i64 0]) ⟨3, 0⟩) := DV.of (Lib.hid hv)
  clear hv ho
  go_wp2_with fail
  (with_reducible refine (ofV_d 1 ⟨1, 0⟩ _ nrm_1 (Lib.hid (by omega)) (Lib.hid (hT.out.keep HK.out.only))).mono ?_)
  rintro e w7 ⟨s7, A7, k7, c7, rfl, -, -, hv, ho⟩
  replace HK := Lib.hid (HK.out.step ho)
  replace HV6 := Lib.hid (HV6.out.only ho)
  have HV7 : Hid (DV w7 (.agg #[.bool s7, .slice A7 k7 c7, .int .i64 0]) ⟨1, 0⟩) := DV.of (Lib.hid hv)
  clear hv ho
  go_wp2_with fail
  (with_reducible refine (between_b 1 ⟨1, 0⟩ ⟨3, 0⟩ cmp_31 (fun _ => ⟨nrm_1, nrm_3⟩) (fun h => absurd (by decide) h) HV6 HV7 (Lib.hid bnd_3) (Lib.hid bnd_1) (by omega) (Lib.hid (hT.out.keep HK.out.only))).mono ?_)
  rintro e w8 ⟨s8, A8, k8, c8, t8, B8, m8, d8, rfl, -, hv1, -, hv2, ho⟩
  replace HK := Lib.hid (HK.out.step ho)
  have HB8 : Hid (BV w8 (.agg #[.bool s8, .slice A8 k8 c8, .int .i64 0, .bool t8, .slice B8 m8 d8, .int .i64 0]) ⟨1, 0⟩ ⟨3, 0⟩) := ⟨_, _, _, _, _, _, _, _, rfl, hv1, hv2⟩
  clear hv1 hv2 ho HV6 HV7
  go_wp2_with fail
  (with_reducible refine (bsign_b 1 true (by decide) (by decide) HB8).mono ?_)
  rintro e w9 ⟨rfl, ho⟩
  replace HK := Lib.hid (HK.out.step ho)
  clear ho HB8
  obtain ⟨j0, j1, j2, j3, j4, j5⟩ := HK.out.c6 0 rfl
  go_wp2_with fail
  go_ret
  exact ⟨rfl, HK.out.only⟩

end Go.Proofs.YtgiejjpemhceiaaDoor
