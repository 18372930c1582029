/-
  Whole numbers: quotients.
-/
import Derived.Test.YtphjcphcgnjogaaDoorWhC
namespace Go.Proofs.YtphjcphcgnjogaaDoor
open Go.RowKit
set_option linter.unusedSimpArgs false

/-- What a quotient's function leaves. -/
def QPost (z : Int) (ok : Bool) (w : World) (e : Ending) (w' : World) : Prop := ∃ s A k c, e = .returned (.tuple #[.agg #[.bool s, .slice A k c], .bool ok]) ∧ s = decide (z < 0) ∧ Res w w' (.slice A k c) z.natAbs ∧ IV w' (.agg #[.bool s, .slice A k c]) z ∧ Only [] w w'
theorem QPost.of {z : Int} {ok : Bool} {w w' : World} {s : Bool} {A : Option Addr} {k c : Nat} (h : WPost z w w (.returned (.agg #[.bool s, .slice A k c])) w') : QPost z ok w (.returned (.tuple #[.agg #[.bool s, .slice A k c], .bool ok])) w' := by
  obtain ⟨s', A', k', c', he, h1, h2, h3, h4⟩ := h
  injection he with he
  simp only [Value.agg.injEq, Array.mk.injEq, List.cons.injEq, Value.bool.injEq, Value.slice.injEq, and_true] at he
  obtain ⟨rfl, rfl, rfl, rfl⟩ := he
  exact ⟨s, A, k, c, rfl, h1, h2, h3, h4⟩
set_option maxHeartbeats 1600000 in
set_option maxRecDepth 100000 in
theorem quo_none {w : World} {a b : Value} {x : Int} (up : Bool) (ha : Hid (IV w a x)) (hb : Hid (IV w b 0)) : Calls Tryd.prog 17 #[a, b, .bool up] w (QPost 0 false w) := by
  obtain ⟨s, A, k, c, rfl, hs⟩ := ha.out.form
  obtain ⟨t, B, l, d, rfl, ht⟩ := hb.out.form
  have hp := P3.start w s t (.slice A k c) (.slice B l d)
  have HX := Lib.hid (ha.out.mag.only hp.only)
  have HY := Lib.hid (hb.out.mag.only hp.only)
  have HP := Lib.hid hp
  clear hs ht ha hb hp
  go_enter Tryd.func17, Tryd.ntmps17
  go_wp2_with fail
  (with_reducible refine (divMod_v HX HY).mono ?_)
  rintro e w2 ⟨A1, k1, c1, A2, k2, c2, u1, u2, rfl, rfl, rfl, -, -, -, -, -, ho⟩
  have hp := HP.out.step ho
  obtain ⟨c0, c1', c2', c3, c4, c5, f4, f5⟩ := hp.cells
  replace hp := Lib.hid hp
  have hd : decide ((0 : Int).natAbs ≠ 0) = false := by decide
  rw [hd]
  clear hd ho
  go_wp2_with fail
  refine bodyPost_ret (v := .tuple #[.agg #[.bool false, .slice none 0 0], .bool false]) (by simp [results, Tryd.results17, go_sem, c4, c5]) rfl ?_
  have hr : Res w2 w2 (.slice none 0 0) (0 : Int).natAbs := res_nil _ _
  exact QPost.of (P3.fin hp.out ⟨by decide, hr⟩ (few_small (by rw [BB_val]; decide)) hp.out.size (only_set2 _ _ _ _))

set_option maxHeartbeats 3200000 in
set_option maxRecDepth 100000 in
theorem quo_some {w : World} {a b : Value} {x y : Int} (up : Bool) (ha : Hid (IV w a x)) (hb : Hid (IV w b y)) (hy : Hid (y ≠ 0)) (hf : Hid (Few (x.natAbs + 1))) : Calls Tryd.prog 17 #[a, b, .bool up] w (QPost (quoI up x y) true w) := by
  obtain ⟨s, A, k, c, rfl, hs⟩ := ha.out.form
  obtain ⟨t, B, l, d, rfl, ht⟩ := hb.out.form
  have hp := P3.start w s t (.slice A k c) (.slice B l d)
  have HX := Lib.hid (ha.out.mag.only hp.only)
  have HY := Lib.hid (hb.out.mag.only hp.only)
  have HP := Lib.hid hp
  have HM : Hid (y.natAbs ≠ 0) := by show _ ≠ _; have := hy.out; omega
  have HQ0 := Lib.hid (quo_sg up s t x.natAbs y.natAbs HM.out)
  rw [hs, ht] at HQ0
  clear hs ht ha hb hp
  have hd : decide (y.natAbs ≠ 0) = true := decide_eq_true HM.out
  generalize quoI up x y = z at *
  generalize x.natAbs = n at *
  generalize y.natAbs = m at *
  have HF1 : Hid (Few (n / m + 1)) := hf.out.le (by have := Nat.div_le_self n m; omega)
  have HF : Hid (Few z.natAbs) := by
    show Few _
    rw [← HQ0.out, sg_abs]
    refine HF1.out.le ?_
    split <;> omega
  have HR0 : Hid (0 < n % m ∨ n % m = 0) := by show _ ∨ _; omega
  go_enter Tryd.func17, Tryd.ntmps17
  go_wp2_with fail
  (with_reducible refine (divMod_v HX HY).mono ?_)
  rintro e w2 ⟨A1, k1, c1, A2, k2, c2, u1, u2, rfl, rfl, rfl, -, -, hq, hr, -, ho⟩
  rw [if_neg HM.out] at hr
  rw [hd]
  have hp := HP.out.step ho
  obtain ⟨c0, c1', c2', c3, c4, c5, f4, f5⟩ := hp.cells
  replace hp := Lib.hid hp
  have HQv := Lib.hid hq
  have HRem := Lib.hid hr
  generalize n / m = q at *
  generalize n % m = r at *
  have HB : Hid (bitsN r = 0 ↔ r = 0) := bits_zero_iff
  clear hd ho HX HY HP hq hr
  rcases HR0.out with h0 | h0
  · have hbt : (0 : Int) < (bitsN r : Int) := by
      have : bitsN r ≠ 0 := fun h => by have := HB.out.1 h; omega
      omega
    simp only [h0, true_and] at HQ0
    clear HR0 HB
    cases s <;> cases t <;> cases up
    all_goals
      have HQ := HQ0
      simp at HQ
      clear HQ0
    · skip
      go_wp2_with fail
      (with_reducible refine (bits_v HRem).mono ?_)
      rintro e w' ⟨rfl, rfl⟩
      generalize (bitsN r : Int) = bt at *
      go_wp2_with fail
      (with_reducible refine (make_w _ HQv).mono ?_)
      rintro e w5 ⟨s5, A5, k5, cx5, rfl, hs5, hr5, -, ho⟩
      rw [HQ.out] at hs5 hr5
      have hp5 := hp.out.step ho
      obtain ⟨e0, e1, e2, e3, e4, e5, g4, g5⟩ := hp5.cells
      replace hp5 := Lib.hid hp5
      have HR := Lib.hid (⟨hs5, hr5⟩ : _ ∧ _)
      clear ho hs5 hr5 c0 c1' c2' c3 c4 c5 f4 f5
      go_wp2_with fail
      refine bodyPost_ret (v := .tuple #[.agg #[.bool s5, .slice A5 k5 cx5], .bool true]) (by simp [results, Tryd.results17, go_sem, e4, e5]) rfl ?_
      exact QPost.of (P3.fin hp5.out HR.out HF.out hp.out.size (only_set2 _ _ _ _))
    · skip
      go_wp2_with fail
      (with_reducible refine (bits_v HRem).mono ?_)
      rintro e w' ⟨rfl, rfl⟩
      generalize (bitsN r : Int) = bt at *
      go_wp2_with fail
      have hl := of_lit 1 1 w2 (by show _ < _; rw [BB_val]; omega) rfl
      (with_reducible refine hl.mono ?_)
      clear hl
      rintro e w3 ⟨A3, k3, c3', rfl, -, hv3, ho⟩
      have hp3 := hp.out.step ho
      have hq3 := Lib.hid (HQv.out.only ho)
      replace hp3 := Lib.hid hp3
      replace hv3 := Lib.hid hv3
      clear ho
      go_wp2_with fail
      (with_reducible refine (add2_v hq3 hv3 HF1).mono ?_)
      rintro e w4 ⟨A4, k4, c4', rfl, -, hv4, ho⟩
      have hp4 := hp3.out.step ho
      clear c0 c1' c2' c3 c4 c5 f4 f5
      obtain ⟨c0, c1', c2', c3, c4, c5, f4, f5⟩ := hp4.cells
      replace hp4 := Lib.hid hp4
      replace hv4 := Lib.hid hv4
      clear ho
      go_wp2_with fail
      (with_reducible refine (make_w _ hv4).mono ?_)
      rintro e w5 ⟨s5, A5, k5, cx5, rfl, hs5, hr5, -, ho⟩
      rw [HQ.out] at hs5 hr5
      have hp5 := hp4.out.step ho
      obtain ⟨e0, e1, e2, e3, e4, e5, g4, g5⟩ := hp5.cells
      replace hp5 := Lib.hid hp5
      have HR := Lib.hid (⟨hs5, hr5⟩ : _ ∧ _)
      clear ho hs5 hr5 c0 c1' c2' c3 c4 c5 f4 f5
      go_wp2_with fail
      refine bodyPost_ret (v := .tuple #[.agg #[.bool s5, .slice A5 k5 cx5], .bool true]) (by simp [results, Tryd.results17, go_sem, e4, e5]) rfl ?_
      exact QPost.of (P3.fin hp5.out HR.out HF.out hp4.out.size (only_set2 _ _ _ _))
    · skip
      go_wp2_with fail
      (with_reducible refine (bits_v HRem).mono ?_)
      rintro e w' ⟨rfl, rfl⟩
      generalize (bitsN r : Int) = bt at *
      go_wp2_with fail
      have hl := of_lit 1 1 w2 (by show _ < _; rw [BB_val]; omega) rfl
      (with_reducible refine hl.mono ?_)
      clear hl
      rintro e w3 ⟨A3, k3, c3', rfl, -, hv3, ho⟩
      have hp3 := hp.out.step ho
      have hq3 := Lib.hid (HQv.out.only ho)
      replace hp3 := Lib.hid hp3
      replace hv3 := Lib.hid hv3
      clear ho
      go_wp2_with fail
      (with_reducible refine (add2_v hq3 hv3 HF1).mono ?_)
      rintro e w4 ⟨A4, k4, c4', rfl, -, hv4, ho⟩
      have hp4 := hp3.out.step ho
      clear c0 c1' c2' c3 c4 c5 f4 f5
      obtain ⟨c0, c1', c2', c3, c4, c5, f4, f5⟩ := hp4.cells
      replace hp4 := Lib.hid hp4
      replace hv4 := Lib.hid hv4
      clear ho
      go_wp2_with fail
      (with_reducible refine (make_w _ hv4).mono ?_)
      rintro e w5 ⟨s5, A5, k5, cx5, rfl, hs5, hr5, -, ho⟩
      rw [HQ.out] at hs5 hr5
      have hp5 := hp4.out.step ho
      obtain ⟨e0, e1, e2, e3, e4, e5, g4, g5⟩ := hp5.cells
      replace hp5 := Lib.hid hp5
      have HR := Lib.hid (⟨hs5, hr5⟩ : _ ∧ _)
      clear ho hs5 hr5 c0 c1' c2' c3 c4 c5 f4 f5
      go_wp2_with fail
      refine bodyPost_ret (v := .tuple #[.agg #[.bool s5, .slice A5 k5 cx5], .bool true]) (by simp [results, Tryd.results17, go_sem, e4, e5]) rfl ?_
      exact QPost.of (P3.fin hp5.out HR.out HF.out hp4.out.size (only_set2 _ _ _ _))
    · skip
      go_wp2_with fail
      (with_reducible refine (bits_v HRem).mono ?_)
      rintro e w' ⟨rfl, rfl⟩
      generalize (bitsN r : Int) = bt at *
      go_wp2_with fail
      (with_reducible refine (make_w _ HQv).mono ?_)
      rintro e w5 ⟨s5, A5, k5, cx5, rfl, hs5, hr5, -, ho⟩
      rw [HQ.out] at hs5 hr5
      have hp5 := hp.out.step ho
      obtain ⟨e0, e1, e2, e3, e4, e5, g4, g5⟩ := hp5.cells
      replace hp5 := Lib.hid hp5
      have HR := Lib.hid (⟨hs5, hr5⟩ : _ ∧ _)
      clear ho hs5 hr5 c0 c1' c2' c3 c4 c5 f4 f5
      go_wp2_with fail
      refine bodyPost_ret (v := .tuple #[.agg #[.bool s5, .slice A5 k5 cx5], .bool true]) (by simp [results, Tryd.results17, go_sem, e4, e5]) rfl ?_
      exact QPost.of (P3.fin hp5.out HR.out HF.out hp.out.size (only_set2 _ _ _ _))
    · skip
      go_wp2_with fail
      (with_reducible refine (bits_v HRem).mono ?_)
      rintro e w' ⟨rfl, rfl⟩
      generalize (bitsN r : Int) = bt at *
      go_wp2_with fail
      have hl := of_lit 1 1 w2 (by show _ < _; rw [BB_val]; omega) rfl
      (with_reducible refine hl.mono ?_)
      clear hl
      rintro e w3 ⟨A3, k3, c3', rfl, -, hv3, ho⟩
      have hp3 := hp.out.step ho
      have hq3 := Lib.hid (HQv.out.only ho)
      replace hp3 := Lib.hid hp3
      replace hv3 := Lib.hid hv3
      clear ho
      go_wp2_with fail
      (with_reducible refine (add2_v hq3 hv3 HF1).mono ?_)
      rintro e w4 ⟨A4, k4, c4', rfl, -, hv4, ho⟩
      have hp4 := hp3.out.step ho
      clear c0 c1' c2' c3 c4 c5 f4 f5
      obtain ⟨c0, c1', c2', c3, c4, c5, f4, f5⟩ := hp4.cells
      replace hp4 := Lib.hid hp4
      replace hv4 := Lib.hid hv4
      clear ho
      go_wp2_with fail
      (with_reducible refine (make_w _ hv4).mono ?_)
      rintro e w5 ⟨s5, A5, k5, cx5, rfl, hs5, hr5, -, ho⟩
      rw [HQ.out] at hs5 hr5
      have hp5 := hp4.out.step ho
      obtain ⟨e0, e1, e2, e3, e4, e5, g4, g5⟩ := hp5.cells
      replace hp5 := Lib.hid hp5
      have HR := Lib.hid (⟨hs5, hr5⟩ : _ ∧ _)
      clear ho hs5 hr5 c0 c1' c2' c3 c4 c5 f4 f5
      go_wp2_with fail
      refine bodyPost_ret (v := .tuple #[.agg #[.bool s5, .slice A5 k5 cx5], .bool true]) (by simp [results, Tryd.results17, go_sem, e4, e5]) rfl ?_
      exact QPost.of (P3.fin hp5.out HR.out HF.out hp4.out.size (only_set2 _ _ _ _))
    · skip
      go_wp2_with fail
      (with_reducible refine (bits_v HRem).mono ?_)
      rintro e w' ⟨rfl, rfl⟩
      generalize (bitsN r : Int) = bt at *
      go_wp2_with fail
      (with_reducible refine (make_w _ HQv).mono ?_)
      rintro e w5 ⟨s5, A5, k5, cx5, rfl, hs5, hr5, -, ho⟩
      rw [HQ.out] at hs5 hr5
      have hp5 := hp.out.step ho
      obtain ⟨e0, e1, e2, e3, e4, e5, g4, g5⟩ := hp5.cells
      replace hp5 := Lib.hid hp5
      have HR := Lib.hid (⟨hs5, hr5⟩ : _ ∧ _)
      clear ho hs5 hr5 c0 c1' c2' c3 c4 c5 f4 f5
      go_wp2_with fail
      refine bodyPost_ret (v := .tuple #[.agg #[.bool s5, .slice A5 k5 cx5], .bool true]) (by simp [results, Tryd.results17, go_sem, e4, e5]) rfl ?_
      exact QPost.of (P3.fin hp5.out HR.out HF.out hp.out.size (only_set2 _ _ _ _))
    · skip
      go_wp2_with fail
      (with_reducible refine (bits_v HRem).mono ?_)
      rintro e w' ⟨rfl, rfl⟩
      generalize (bitsN r : Int) = bt at *
      go_wp2_with fail
      (with_reducible refine (make_w _ HQv).mono ?_)
      rintro e w5 ⟨s5, A5, k5, cx5, rfl, hs5, hr5, -, ho⟩
      rw [HQ.out] at hs5 hr5
      have hp5 := hp.out.step ho
      obtain ⟨e0, e1, e2, e3, e4, e5, g4, g5⟩ := hp5.cells
      replace hp5 := Lib.hid hp5
      have HR := Lib.hid (⟨hs5, hr5⟩ : _ ∧ _)
      clear ho hs5 hr5 c0 c1' c2' c3 c4 c5 f4 f5
      go_wp2_with fail
      refine bodyPost_ret (v := .tuple #[.agg #[.bool s5, .slice A5 k5 cx5], .bool true]) (by simp [results, Tryd.results17, go_sem, e4, e5]) rfl ?_
      exact QPost.of (P3.fin hp5.out HR.out HF.out hp.out.size (only_set2 _ _ _ _))
    · skip
      go_wp2_with fail
      (with_reducible refine (bits_v HRem).mono ?_)
      rintro e w' ⟨rfl, rfl⟩
      generalize (bitsN r : Int) = bt at *
      go_wp2_with fail
      have hl := of_lit 1 1 w2 (by show _ < _; rw [BB_val]; omega) rfl
      (with_reducible refine hl.mono ?_)
      clear hl
      rintro e w3 ⟨A3, k3, c3', rfl, -, hv3, ho⟩
      have hp3 := hp.out.step ho
      have hq3 := Lib.hid (HQv.out.only ho)
      replace hp3 := Lib.hid hp3
      replace hv3 := Lib.hid hv3
      clear ho
      go_wp2_with fail
      (with_reducible refine (add2_v hq3 hv3 HF1).mono ?_)
      rintro e w4 ⟨A4, k4, c4', rfl, -, hv4, ho⟩
      have hp4 := hp3.out.step ho
      clear c0 c1' c2' c3 c4 c5 f4 f5
      obtain ⟨c0, c1', c2', c3, c4, c5, f4, f5⟩ := hp4.cells
      replace hp4 := Lib.hid hp4
      replace hv4 := Lib.hid hv4
      clear ho
      go_wp2_with fail
      (with_reducible refine (make_w _ hv4).mono ?_)
      rintro e w5 ⟨s5, A5, k5, cx5, rfl, hs5, hr5, -, ho⟩
      rw [HQ.out] at hs5 hr5
      have hp5 := hp4.out.step ho
      obtain ⟨e0, e1, e2, e3, e4, e5, g4, g5⟩ := hp5.cells
      replace hp5 := Lib.hid hp5
      have HR := Lib.hid (⟨hs5, hr5⟩ : _ ∧ _)
      clear ho hs5 hr5 c0 c1' c2' c3 c4 c5 f4 f5
      go_wp2_with fail
      refine bodyPost_ret (v := .tuple #[.agg #[.bool s5, .slice A5 k5 cx5], .bool true]) (by simp [results, Tryd.results17, go_sem, e4, e5]) rfl ?_
      exact QPost.of (P3.fin hp5.out HR.out HF.out hp4.out.size (only_set2 _ _ _ _))
  · have hbt : (bitsN r : Int) = 0 := by have := HB.out.2 h0; omega
    have hr0 : ¬ (0 < r) := by omega
    simp only [hr0, false_and, if_false, Nat.add_zero] at HQ0
    clear HR0 HB h0 hr0
    have HQ := HQ0
    clear HQ0
    cases s <;> cases t
    all_goals
      simp at HQ
      go_wp2_with fail
      (with_reducible refine (bits_v HRem).mono ?_)
      rintro e w' ⟨rfl, rfl⟩
      rw [hbt]
      go_wp2_with fail
      (with_reducible refine (make_w _ HQv).mono ?_)
      rintro e w5 ⟨s5, A5, k5, cx5, rfl, hs5, hr5, -, ho⟩
      rw [HQ.out] at hs5 hr5
      have hp5 := hp.out.step ho
      obtain ⟨e0, e1, e2, e3, e4, e5, g4, g5⟩ := hp5.cells
      replace hp5 := Lib.hid hp5
      have HR := Lib.hid (⟨hs5, hr5⟩ : _ ∧ _)
      clear ho hs5 hr5 c0 c1' c2' c3 c4 c5 f4 f5
      go_wp2_with fail
      refine bodyPost_ret (v := .tuple #[.agg #[.bool s5, .slice A5 k5 cx5], .bool true]) (by simp [results, Tryd.results17, go_sem, e4, e5]) rfl ?_
      exact QPost.of (P3.fin hp5.out HR.out HF.out hp.out.size (only_set2 _ _ _ _))

end Go.Proofs.YtphjcphcgnjogaaDoor
