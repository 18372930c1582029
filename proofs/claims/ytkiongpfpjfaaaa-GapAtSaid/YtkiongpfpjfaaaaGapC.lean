/-
  GapAt: the walk.
-/
import Derived.Test.YtkiongpfpjfaaaaGapB
import Derived.WalkLawsBesides
namespace Go.Proofs.Ytkiongpfpjfaaaa
open Go.RowKit
set_option linter.unusedSimpArgs false
attribute [local go_sem] run_store_float

theorem read_num (v : Nat) (h : finB v = true) : ∃ s m i, Ieee.double.read v = .number s m i := by
  have hb : Ieee.double.binade = 4503599627370496 := by decide
  have hi : Ieee.double.infRung = 9218868437227405312 := by decide
  have hs : Ieee.double.signWeight = 9223372036854775808 := by decide
  unfold Ieee.Format.read
  simp only [hb, hi, hs]
  split
  · exact ⟨_, _, _, rfl⟩
  · split
    · exact ⟨_, _, _, rfl⟩
    · exfalso
      simp [finB] at h
      omega
theorem ord_self (v : Nat) (h : finB v = true) : FloatKind.f64.format.order v v = some .eq := by
  obtain ⟨s, m, i, e⟩ := read_num v h
  show (Ieee.double.read v).order (Ieee.double.read v) = _
  rw [e]
  simp [Ieee.Datum.order]
theorem ord_zero (v : Nat) (h : finB v = true) : ∃ c, FloatKind.f64.format.order v 0 = some c := by
  obtain ⟨s, m, i, e⟩ := read_num v h
  have h1 : ∃ c, (Ieee.Datum.number s m i).order (.number false 0 Ieee.double.leastPlace) = some c := ⟨_, rfl⟩
  obtain ⟨c, hc⟩ := h1
  exact ⟨c, by show (Ieee.double.read v).order (Ieee.double.read 0) = _; rw [e]; exact hc⟩

set_option maxHeartbeats 1600000 in
theorem gapat_no (v : Nat) (Hv : Hid (v < 2 ^ 64)) (h : finB v = false) (w : World) : Calls Try.prog 4 #[.float .f64 v] w fun e w' => e = .returned (.bool true) ∧ Only [] w w' := by
  have o1 : FloatKind.f64.format.order 18442240474082181120 18442240474082181120 = some .eq := by kernel_rfl
  have o2 : FloatKind.f64.format.order 9218868437227405312 9218868437227405312 = some .eq := by kernel_rfl
  have q1 : ∀ w : World, (Op.equalIn 9999 30 (.float .f64 18442240474082181120) (.float .f64 18442240474082181120)).run Try.prog w = .ok true w := fun w => by kernel_rfl
  have q2 : ∀ w : World, (Op.equalIn 9999 30 (.float .f64 9218868437227405312) (.float .f64 9218868437227405312)).run Try.prog w = .ok true w := fun w => by kernel_rfl
  have hkn : (finB 18442240474082181120 && finB 9218868437227405312 && leB 18442240474082181120 9218868437227405312) = false := by kernel_rfl
  go_enter Try.func4, Try.ntmps4
  go_wp2_with fail
  refine (alive7_any _).mono ?_
  rintro e w1 ⟨rfl, h1⟩
  go_wp2_with fail
  refine (at_no v Hv h _).mono ?_
  rintro e w2 ⟨rfl, h2⟩
  have HO2 := Lib.hid (h1.nil_trans h2)
  clear h1 h2
  have B2 := Lib.hid (Blk.new w2 38 [.float .f64 18442240474082181120, .float .f64 9218868437227405312])
  have HB2 := Lib.hid (HO2.out.nil_trans (only_new w2 [.float .f64 18442240474082181120, .float .f64 9218868437227405312] 38))
  go_wp2_with fail
  refine (all_any _).mono ?_
  rintro e w3 ⟨rfl, h3⟩
  have BA := Lib.hid ((B2.out.only h3 (by simp)).alloc (.cells #[.float .f64 18442240474082181120, .float .f64 9218868437227405312] 38))
  have BB := Lib.hid (Blk.new w3 38 [.float .f64 18442240474082181120, .float .f64 9218868437227405312])
  have H3 := Lib.hid ((HB2.out.nil_trans h3).nil_trans (only_new w3 [.float .f64 18442240474082181120, .float .f64 9218868437227405312] 38))
  clear h3 HB2 B2 HO2
  go_wp2_with fail
  refine (known_any _ _ (by decide) (by decide) _).mono ?_
  rw [hkn]
  rintro e w4 ⟨rfl, h4⟩
  have BA4 := Lib.hid (BA.out.only h4 (by simp))
  have BB4 := Lib.hid (BB.out.only h4 (by simp))
  have H4 := Lib.hid (H3.out.nil_trans h4)
  clear h4 BA BB H3 hkn
  have a0 := BA4.out.cell 0
  have a1 := BA4.out.cell 1
  have b0 := BB4.out.cell 0
  have b1 := BB4.out.cell 1
  simp only [List.getElem?_cons_zero, List.getElem?_cons_succ] at a0 a1 b0 b1
  go_wp2_with (first | (go_at_call 17; (with_reducible refine (isinf_n _).mono ?_); rintro e w' ⟨rfl, rfl⟩) | (go_at_call 17; (with_reducible refine (isinf_p _).mono ?_); rintro e w' ⟨rfl, rfl⟩) | (go_at_call 18; (with_reducible refine (rfinite_any _ _).mono ?_); rintro e w' ⟨rfl, rfl⟩))
  go_ret
  exact ⟨by simp, H4.out⟩

set_option maxHeartbeats 1600000 in
theorem gapat_yes (v : Nat) (Hv : Hid (v < 2 ^ 64)) (h : finB v = true) (w : World) : Calls Try.prog 4 #[.float .f64 v] w fun e w' => e = .returned (.bool true) ∧ Only [] w w' := by
  obtain ⟨c, hc⟩ := ord_zero v h
  have hs := ord_self v h
  have hk : (finB v && finB v && leB v v) = true := by simp [h, leB, ord, hs]
  have hc' : ord v 0 = some c := hc
  have Hc := Lib.hid hc'
  have Hk := Lib.hid hk
  clear hk hc'
  cases c
  · skip
    have hkn : (finB 18442240474082181120 && finB 9218868437227405312 && leB 18442240474082181120 9218868437227405312) = false := by kernel_rfl
    go_enter Try.func4, Try.ntmps4
    go_wp2_with fail
    refine (alive7_any _).mono ?_
    rintro e w1 ⟨rfl, h1⟩
    go_wp2_with fail
    refine (at_yes v Hv h _).mono ?_
    rintro e w2 ⟨rfl, h2⟩
    have HO2 := Lib.hid (h1.nil_trans h2)
    clear h1 h2
    have B2 := Lib.hid (Blk.new w2 38 [.float .f64 v, .float .f64 v])
    have HB2 := Lib.hid (HO2.out.nil_trans (only_new w2 [.float .f64 v, .float .f64 v] 38))
    go_wp2_with fail
    refine (all_any _).mono ?_
    rintro e w3 ⟨rfl, h3⟩
    have BA := Lib.hid ((B2.out.only h3 (by simp)).alloc (.cells #[.float .f64 18442240474082181120, .float .f64 9218868437227405312] 38))
    have BB := Lib.hid (Blk.new w3 38 [.float .f64 18442240474082181120, .float .f64 9218868437227405312])
    have H3 := Lib.hid ((HB2.out.nil_trans h3).nil_trans (only_new w3 [.float .f64 18442240474082181120, .float .f64 9218868437227405312] 38))
    clear h3 HB2 B2 HO2
    go_wp2_with fail
    refine (known_any _ _ (by decide) (by decide) _).mono ?_
    rw [hkn]
    rintro e w4 ⟨rfl, h4⟩
    have BA4 := Lib.hid (BA.out.only h4 (by simp))
    have BB4 := Lib.hid (BB.out.only h4 (by simp))
    have H4 := Lib.hid (H3.out.nil_trans h4)
    clear h4 BA BB H3 hkn
    have a0 := BA4.out.cell 0
    have a1 := BA4.out.cell 1
    have b0 := BB4.out.cell 0
    have b1 := BB4.out.cell 1
    simp only [List.getElem?_cons_zero, List.getElem?_cons_succ] at a0 a1 b0 b1
    go_wp2_with (first | (go_at_call 17; (with_reducible refine (isinf_n _).mono ?_); rintro e w' ⟨rfl, rfl⟩) | (go_at_call 17; (with_reducible refine (isinf_p _).mono ?_); rintro e w' ⟨rfl, rfl⟩) | (go_at_call 18; (with_reducible refine (rfinite_any _ _).mono ?_); rintro e w' ⟨rfl, rfl⟩))
    refine (sign_any v v Hv.out Hv.out _ Hk.out).mono ?_
    rw [Hc.out, if_neg (by decide), if_pos rfl, if_neg (by decide), if_pos rfl]
    rintro e w5 ⟨rfl, h5⟩
    have BA5 := Lib.hid (BA4.out.only h5 (by simp))
    have H5 := Lib.hid (H4.out.nil_trans h5)
    clear h5 BA4 BB4 H4 a0 a1 b0 b1
    have a0 := BA5.out.cell 0
    have a1 := BA5.out.cell 1
    simp only [List.getElem?_cons_zero, List.getElem?_cons_succ] at a0 a1
    go_wp2_with fail
    refine (known_any v v Hv.out Hv.out _).mono ?_
    rw [Hk.out]
    rintro e w6 ⟨rfl, h6⟩
    have BA6 := Lib.hid (BA5.out.only h6 (by simp))
    have H6 := Lib.hid (H5.out.nil_trans h6)
    clear h6 BA5 H5 a0 a1
    have a0 := BA6.out.cell 0
    have a1 := BA6.out.cell 1
    simp only [List.getElem?_cons_zero, List.getElem?_cons_succ] at a0 a1
    go_wp2_with fail
    go_ret
    exact ⟨by simp, H6.out⟩
  · skip
    have hkn : (finB 18442240474082181120 && finB 9218868437227405312 && leB 18442240474082181120 9218868437227405312) = false := by kernel_rfl
    go_enter Try.func4, Try.ntmps4
    go_wp2_with fail
    refine (alive7_any _).mono ?_
    rintro e w1 ⟨rfl, h1⟩
    go_wp2_with fail
    refine (at_yes v Hv h _).mono ?_
    rintro e w2 ⟨rfl, h2⟩
    have HO2 := Lib.hid (h1.nil_trans h2)
    clear h1 h2
    have B2 := Lib.hid (Blk.new w2 38 [.float .f64 v, .float .f64 v])
    have HB2 := Lib.hid (HO2.out.nil_trans (only_new w2 [.float .f64 v, .float .f64 v] 38))
    go_wp2_with fail
    refine (all_any _).mono ?_
    rintro e w3 ⟨rfl, h3⟩
    have BA := Lib.hid ((B2.out.only h3 (by simp)).alloc (.cells #[.float .f64 18442240474082181120, .float .f64 9218868437227405312] 38))
    have BB := Lib.hid (Blk.new w3 38 [.float .f64 18442240474082181120, .float .f64 9218868437227405312])
    have H3 := Lib.hid ((HB2.out.nil_trans h3).nil_trans (only_new w3 [.float .f64 18442240474082181120, .float .f64 9218868437227405312] 38))
    clear h3 HB2 B2 HO2
    go_wp2_with fail
    refine (known_any _ _ (by decide) (by decide) _).mono ?_
    rw [hkn]
    rintro e w4 ⟨rfl, h4⟩
    have BA4 := Lib.hid (BA.out.only h4 (by simp))
    have BB4 := Lib.hid (BB.out.only h4 (by simp))
    have H4 := Lib.hid (H3.out.nil_trans h4)
    clear h4 BA BB H3 hkn
    have a0 := BA4.out.cell 0
    have a1 := BA4.out.cell 1
    have b0 := BB4.out.cell 0
    have b1 := BB4.out.cell 1
    simp only [List.getElem?_cons_zero, List.getElem?_cons_succ] at a0 a1 b0 b1
    go_wp2_with (first | (go_at_call 17; (with_reducible refine (isinf_n _).mono ?_); rintro e w' ⟨rfl, rfl⟩) | (go_at_call 17; (with_reducible refine (isinf_p _).mono ?_); rintro e w' ⟨rfl, rfl⟩) | (go_at_call 18; (with_reducible refine (rfinite_any _ _).mono ?_); rintro e w' ⟨rfl, rfl⟩))
    refine (sign_any v v Hv.out Hv.out _ Hk.out).mono ?_
    rw [Hc.out, if_neg (by decide), if_neg (by decide), if_neg (by decide), if_neg (by decide)]
    rintro e w5 ⟨rfl, h5⟩
    have BA5 := Lib.hid (BA4.out.only h5 (by simp))
    have H5 := Lib.hid (H4.out.nil_trans h5)
    clear h5 BA4 BB4 H4 a0 a1 b0 b1
    have a0 := BA5.out.cell 0
    have a1 := BA5.out.cell 1
    simp only [List.getElem?_cons_zero, List.getElem?_cons_succ] at a0 a1
    go_wp2_with fail
    refine (known_any v v Hv.out Hv.out _).mono ?_
    rw [Hk.out]
    rintro e w6 ⟨rfl, h6⟩
    have BA6 := Lib.hid (BA5.out.only h6 (by simp))
    have H6 := Lib.hid (H5.out.nil_trans h6)
    clear h6 BA5 H5 a0 a1
    have a0 := BA6.out.cell 0
    have a1 := BA6.out.cell 1
    simp only [List.getElem?_cons_zero, List.getElem?_cons_succ] at a0 a1
    go_wp2_with fail
    go_ret
    exact ⟨by simp, H6.out⟩
  · skip
    have hkn : (finB 18442240474082181120 && finB 9218868437227405312 && leB 18442240474082181120 9218868437227405312) = false := by kernel_rfl
    go_enter Try.func4, Try.ntmps4
    go_wp2_with fail
    refine (alive7_any _).mono ?_
    rintro e w1 ⟨rfl, h1⟩
    go_wp2_with fail
    refine (at_yes v Hv h _).mono ?_
    rintro e w2 ⟨rfl, h2⟩
    have HO2 := Lib.hid (h1.nil_trans h2)
    clear h1 h2
    have B2 := Lib.hid (Blk.new w2 38 [.float .f64 v, .float .f64 v])
    have HB2 := Lib.hid (HO2.out.nil_trans (only_new w2 [.float .f64 v, .float .f64 v] 38))
    go_wp2_with fail
    refine (all_any _).mono ?_
    rintro e w3 ⟨rfl, h3⟩
    have BA := Lib.hid ((B2.out.only h3 (by simp)).alloc (.cells #[.float .f64 18442240474082181120, .float .f64 9218868437227405312] 38))
    have BB := Lib.hid (Blk.new w3 38 [.float .f64 18442240474082181120, .float .f64 9218868437227405312])
    have H3 := Lib.hid ((HB2.out.nil_trans h3).nil_trans (only_new w3 [.float .f64 18442240474082181120, .float .f64 9218868437227405312] 38))
    clear h3 HB2 B2 HO2
    go_wp2_with fail
    refine (known_any _ _ (by decide) (by decide) _).mono ?_
    rw [hkn]
    rintro e w4 ⟨rfl, h4⟩
    have BA4 := Lib.hid (BA.out.only h4 (by simp))
    have BB4 := Lib.hid (BB.out.only h4 (by simp))
    have H4 := Lib.hid (H3.out.nil_trans h4)
    clear h4 BA BB H3 hkn
    have a0 := BA4.out.cell 0
    have a1 := BA4.out.cell 1
    have b0 := BB4.out.cell 0
    have b1 := BB4.out.cell 1
    simp only [List.getElem?_cons_zero, List.getElem?_cons_succ] at a0 a1 b0 b1
    go_wp2_with (first | (go_at_call 17; (with_reducible refine (isinf_n _).mono ?_); rintro e w' ⟨rfl, rfl⟩) | (go_at_call 17; (with_reducible refine (isinf_p _).mono ?_); rintro e w' ⟨rfl, rfl⟩) | (go_at_call 18; (with_reducible refine (rfinite_any _ _).mono ?_); rintro e w' ⟨rfl, rfl⟩))
    refine (sign_any v v Hv.out Hv.out _ Hk.out).mono ?_
    rw [Hc.out, if_pos rfl, if_pos rfl]
    rintro e w5 ⟨rfl, h5⟩
    have BA5 := Lib.hid (BA4.out.only h5 (by simp))
    have H5 := Lib.hid (H4.out.nil_trans h5)
    clear h5 BA4 BB4 H4 a0 a1 b0 b1
    have a0 := BA5.out.cell 0
    have a1 := BA5.out.cell 1
    simp only [List.getElem?_cons_zero, List.getElem?_cons_succ] at a0 a1
    go_wp2_with fail
    refine (known_any v v Hv.out Hv.out _).mono ?_
    rw [Hk.out]
    rintro e w6 ⟨rfl, h6⟩
    have BA6 := Lib.hid (BA5.out.only h6 (by simp))
    have H6 := Lib.hid (H5.out.nil_trans h6)
    clear h6 BA5 H5 a0 a1
    have a0 := BA6.out.cell 0
    have a1 := BA6.out.cell 1
    simp only [List.getElem?_cons_zero, List.getElem?_cons_succ] at a0 a1
    go_wp2_with fail
    go_ret
    exact ⟨by simp, H6.out⟩
end Go.Proofs.Ytkiongpfpjfaaaa
