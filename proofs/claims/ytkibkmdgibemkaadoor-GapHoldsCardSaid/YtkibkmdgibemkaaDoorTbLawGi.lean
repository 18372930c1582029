/-
  GapHolds: the walk, where the quotient is not looked at.
-/
import Derived.Test.YtkibkmdgibemkaaDoorTbLawGh
namespace Go.Proofs.YtkibkmdgibemkaaDoor
set_option linter.unusedSimpArgs false
open Go.RowKit
namespace Fl
attribute [local go_sem] run_store_float
set_option linter.unusedVariables false
set_option maxHeartbeats 8000000 in
set_option maxRecDepth 100000 in
theorem gh_no0 (a1 a2 b1 b2 x y mx my cx cy X1 Y1 X2 Y2 X3 Y3 X4 Y4 X5 Y5 : Nat) (p q zs zd zm u v mu mv : Dy) (sp sq su sv cu cv : Int) (w : World) (N M : Nat) (hN : N ≤ 100000) (hM : M ≤ 900000)
    (ha1 : Hid (a1 < 18446744073709551616)) (ha2 : Hid (a2 < 18446744073709551616)) (hb1 : Hid (b1 < 18446744073709551616)) (hb2 : Hid (b2 < 18446744073709551616)) (hX4 : Hid (X4 < 18446744073709551616)) (hY4 : Hid (Y4 < 18446744073709551616)) (hX5 : Hid (X5 < 18446744073709551616)) (hY5 : Hid (Y5 < 18446744073709551616)) (hcx64 : Hid (cx < 18446744073709551616)) (hcy64 : Hid (cy < 18446744073709551616)) (hka : kn a1 a2 = true) (hkb : kn b1 b2 = true) (hfx : finB cx = true) (hfy : finB cy = true)
    (hm1 : (∀ w : World, (Builtin.max_ #[22, 22] 22 #[.float .f64 x, .float .f64 a1]).run Tryd.prog w = .ok (.float .f64 mx) w)) (hm2 : (∀ w : World, (Builtin.min_ #[22, 22] 22 #[.float .f64 mx, .float .f64 a2]).run Tryd.prog w = .ok (.float .f64 cx) w)) (hm3 : (∀ w : World, (Builtin.max_ #[22, 22] 22 #[.float .f64 y, .float .f64 b1]).run Tryd.prog w = .ok (.float .f64 my) w)) (hm4 : (∀ w : World, (Builtin.min_ #[22, 22] 22 #[.float .f64 my, .float .f64 b2]).run Tryd.prog w = .ok (.float .f64 cy) w))
    (HP : Hid (∀ w : World, Calls Tryd.prog 8 #[.float .f64 cx] w (RDP p w))) (HQ : Hid (∀ w : World, Calls Tryd.prog 8 #[.float .f64 cy] w (RDP q w))) (CP : Hid (Can p)) (CQ : Hid (Can q)) (Bp : Hid (Bnd N p)) (Bq : Hid (Bnd N q)) (Bp2 : Hid (Bnd M p)) (Hzs : Hid (dAdd p q = zs)) (Hzd : Hid (dSub p q = zd)) (Hzm : Hid (dMul p q = zm)) (Bzs : Hid (Bnd M zs)) (Bzd : Hid (Bnd M zd)) (Bzm : Hid (Bnd M zm))
    (HC1 : Hid (∀ w : World, Calls Tryd.prog 13 #[.agg #[.float .f64 a1, .float .f64 a2], .agg #[.float .f64 b1, .float .f64 b2]] w fun e w' => e = .returned (.agg #[.float .f64 X1, .float .f64 Y1]) ∧ Only [] w w')) (HC2 : Hid (∀ w : World, Calls Tryd.prog 15 #[.agg #[.float .f64 a1, .float .f64 a2], .agg #[.float .f64 b1, .float .f64 b2]] w fun e w' => e = .returned (.agg #[.float .f64 X2, .float .f64 Y2]) ∧ Only [] w w')) (HC3 : Hid (∀ w : World, Calls Tryd.prog 16 #[.agg #[.float .f64 a1, .float .f64 a2], .agg #[.float .f64 b1, .float .f64 b2]] w fun e w' => e = .returned (.agg #[.float .f64 X3, .float .f64 Y3]) ∧ Only [] w w')) (HC4 : Hid (∀ w : World, Calls Tryd.prog 17 #[.agg #[.float .f64 a1, .float .f64 a2], .agg #[.float .f64 b1, .float .f64 b2]] w fun e w' => e = .returned (.agg #[.float .f64 X4, .float .f64 Y4]) ∧ Only [] w w')) (HC5 : Hid (∀ w : World, Calls Tryd.prog 22 #[.agg #[.float .f64 a1, .float .f64 a2]] w fun e w' => e = .returned (.agg #[.float .f64 X5, .float .f64 Y5]) ∧ Only [] w w'))
    (HH1 : Hid (∀ (w : World) (b : Value), Hid (DV w b zs) → Hid (Tab6 w) → Calls Tryd.prog 14 #[.agg #[.float .f64 X1, .float .f64 Y1], b] w fun e w' => e = .returned (.bool true) ∧ Only [] w w')) (HH2 : Hid (∀ (w : World) (b : Value), Hid (DV w b zd) → Hid (Tab6 w) → Calls Tryd.prog 14 #[.agg #[.float .f64 X2, .float .f64 Y2], b] w fun e w' => e = .returned (.bool true) ∧ Only [] w w')) (HH3 : Hid (∀ (w : World) (b : Value), Hid (DV w b zm) → Hid (Tab6 w) → Calls Tryd.prog 14 #[.agg #[.float .f64 X3, .float .f64 Y3], b] w fun e w' => e = .returned (.bool true) ∧ Only [] w w'))
    (Hsq : Hid (q.z.sign = sq)) (Hsp : Hid (p.z.sign = sp)) (HU : Hid (kn X5 Y5 = true → ∀ w : World, Calls Tryd.prog 8 #[.float .f64 X5] w (RDP u w))) (HV : Hid (kn X5 Y5 = true → ∀ w : World, Calls Tryd.prog 8 #[.float .f64 Y5] w (RDP v w))) (Hsu : Hid (u.z.sign = su)) (Hsv : Hid (v.z.sign = sv)) (Hmu : Hid (dMul u u = mu)) (Hmv : Hid (dMul v v = mv)) (Cmu : Hid (Can mu)) (Cmv : Hid (Can mv)) (Bu : Hid (Bnd N u)) (Bv : Hid (Bnd N v)) (Bmu : Hid (Bnd M mu)) (Bmv : Hid (Bnd M mv)) (Hcu : Hid (cmpQ mu.q p.q = cu)) (Hcv : Hid (cmpQ mv.q p.q = cv))
    (HRC : Hid (sp < 0 ∨ (0 ≤ sp ∧ kn X5 Y5 = false) ∨ (0 ≤ sp ∧ kn X5 Y5 = true ∧ ((decide (su ≤ 0) = true ∧ decide (0 ≤ sv) = true ∧ decide (0 ≤ cv) = true) ∨ (decide (su ≤ 0) = false ∧ decide (cu ≤ 0) = true ∧ decide (0 ≤ sv) = true ∧ decide (0 ≤ cv) = true))))) (hT : Hid (Tab6 w)) (hsq0 : sq = 0) :
    Calls Tryd.prog 3 #[.agg #[.float .f64 a1, .float .f64 a2], .agg #[.float .f64 b1, .float .f64 b2], .float .f64 x, .float .f64 y] w fun e w' => e = .returned (.bool true) ∧ Only [] w w' := by
  have hk := ((GB.start w).new 24 [.float .f64 a1, .float .f64 a2] (noLimb2f _ _)).new 24 [.float .f64 b1, .float .f64 b2] (noLimb2f _ _)
  simp only [World.size_alloc] at hk
  have HG := Lib.hid hk
  have HI := Lib.hid (WL.nil ((w.alloc (.cells #[.float .f64 a1, .float .f64 a2] 24)).alloc (.cells #[.float .f64 b1, .float .f64 b2] 24)))
  have HR := Lib.hid (RL.nil ((w.alloc (.cells #[.float .f64 a1, .float .f64 a2] 24)).alloc (.cells #[.float .f64 b1, .float .f64 b2] 24)))
  clear hk
  go_enter Tryd.func3, Tryd.ntmps3
  obtain ⟨x1_0, x1_1⟩ := GB.c2 HG 1 rfl
  obtain ⟨x2_0, x2_1⟩ := GB.c2 HG 0 rfl
  go_wp2_with fail
  (with_reducible refine (lknownV a1 a2 true ha1.out ha2.out hka _).mono ?_)
  rintro e w101 ⟨rfl, ho⟩
  replace HG := Lib.hid (HG.out.step ho)
  replace HI := Lib.hid (HI.out.step ho)
  replace HR := Lib.hid (HR.out.step ho)
  clear ho
  clear x1_0 x1_1 x2_0 x2_1
  obtain ⟨x3_0, x3_1⟩ := GB.c2 HG 0 rfl
  go_wp2_with fail
  (with_reducible refine (lknownV b1 b2 true hb1.out hb2.out hkb _).mono ?_)
  rintro e w102 ⟨rfl, ho⟩
  replace HG := Lib.hid (HG.out.step ho)
  replace HI := Lib.hid (HI.out.step ho)
  replace HR := Lib.hid (HR.out.step ho)
  clear ho
  clear x3_0 x3_1
  go_wp2_with fail
  (with_reducible refine (alive7_any _).mono ?_)
  rintro e w103 ⟨rfl, ho⟩
  replace HG := Lib.hid (HG.out.step ho)
  replace HI := Lib.hid (HI.out.step ho)
  replace HR := Lib.hid (HR.out.step ho)
  clear ho
  go_upto_region 3 with fail
  apply wp_region_typedU (by kernel_rfl) [isV _, isV _, isV _, isV _, isV _, isV _, isV _, isV _, isV _, isV _, isV _, isV _, isV _, isV _, isV _, isV _] [[], [], [1], [0, 2], [], [4], [3, 5], [], [], [8], [7, 9], [], [11], [10, 12], [6], [13]] (by kernel_rfl) (by kernel_rfl)
  case ho =>
    refine owes2_cons (fun wx hox => ?_) ?_
    · skip
      skip
      refine withs_plain rfl ?_
      simp only [withs, List.getElem?_cons_zero, List.getElem?_cons_succ, Option.bind, Option.getD]
      repeat (with_reducible refine all_isV ?_)
      go_simp
      exact ⟨Only.refl _ _, isV.self _ _⟩
    refine owes2_cons (fun wx hox => ?_) ?_
    · skip
      skip
      refine withs_plain rfl ?_
      simp only [withs, List.getElem?_cons_zero, List.getElem?_cons_succ, Option.bind, Option.getD]
      repeat (with_reducible refine all_isV ?_)
      go_simp
      exact ⟨Only.refl _ _, isV.self _ _⟩
    refine owes2_cons (fun wx hox => ?_) ?_
    · skip
      have hg := Lib.hid (HG.out.step hox)
      have hi := Lib.hid (HI.out.step hox)
      have hr := Lib.hid (HR.out.step hox)
      obtain ⟨x4_0, x4_1⟩ := GB.c2 hg 1 rfl
      clear hg hi hr
      refine withs_plain rfl ?_
      simp only [withs, List.getElem?_cons_zero, List.getElem?_cons_succ, Option.bind, Option.getD]
      repeat (with_reducible refine all_isV ?_)
      go_simp
      exact ⟨Only.refl _ _, isV.self _ _⟩
    refine owes2_cons (fun wx hox => ?_) ?_
    · skip
      skip
      refine withs_plain rfl ?_
      simp only [withs, List.getElem?_cons_zero, List.getElem?_cons_succ, Option.bind, Option.getD]
      repeat (with_reducible refine all_isV ?_)
      go_simp
      exact ⟨Only.refl _ _, isV.self _ _⟩
    refine owes2_cons (fun wx hox => ?_) ?_
    · skip
      skip
      refine withs_plain rfl ?_
      simp only [withs, List.getElem?_cons_zero, List.getElem?_cons_succ, Option.bind, Option.getD]
      repeat (with_reducible refine all_isV ?_)
      go_simp
      exact ⟨Only.refl _ _, isV.self _ _⟩
    refine owes2_cons (fun wx hox => ?_) ?_
    · skip
      have hg := Lib.hid (HG.out.step hox)
      have hi := Lib.hid (HI.out.step hox)
      have hr := Lib.hid (HR.out.step hox)
      obtain ⟨x5_0, x5_1⟩ := GB.c2 hg 1 rfl
      clear hg hi hr
      refine withs_plain rfl ?_
      simp only [withs, List.getElem?_cons_zero, List.getElem?_cons_succ, Option.bind, Option.getD]
      repeat (with_reducible refine all_isV ?_)
      go_simp
      exact ⟨Only.refl _ _, isV.self _ _⟩
    refine owes2_cons (fun wx hox => ?_) ?_
    · skip
      skip
      refine withs_plain rfl ?_
      simp only [withs, List.getElem?_cons_zero, List.getElem?_cons_succ, Option.bind, Option.getD]
      repeat (with_reducible refine all_isV ?_)
      go_simp
      exact ⟨Only.refl _ _, isV.self _ _⟩
    refine owes2_cons (fun wx hox => ?_) ?_
    · skip
      skip
      refine withs_plain rfl ?_
      simp only [withs, List.getElem?_cons_zero, List.getElem?_cons_succ, Option.bind, Option.getD]
      repeat (with_reducible refine all_isV ?_)
      go_simp
      exact ⟨Only.refl _ _, isV.self _ _⟩
    refine owes2_cons (fun wx hox => ?_) ?_
    · skip
      skip
      refine withs_plain rfl ?_
      simp only [withs, List.getElem?_cons_zero, List.getElem?_cons_succ, Option.bind, Option.getD]
      repeat (with_reducible refine all_isV ?_)
      go_simp
      exact ⟨Only.refl _ _, isV.self _ _⟩
    refine owes2_cons (fun wx hox => ?_) ?_
    · skip
      have hg := Lib.hid (HG.out.step hox)
      have hi := Lib.hid (HI.out.step hox)
      have hr := Lib.hid (HR.out.step hox)
      obtain ⟨x6_0, x6_1⟩ := GB.c2 hg 0 rfl
      clear hg hi hr
      refine withs_plain rfl ?_
      simp only [withs, List.getElem?_cons_zero, List.getElem?_cons_succ, Option.bind, Option.getD]
      repeat (with_reducible refine all_isV ?_)
      go_simp
      exact ⟨Only.refl _ _, isV.self _ _⟩
    refine owes2_cons (fun wx hox => ?_) ?_
    · skip
      skip
      refine withs_plain rfl ?_
      simp only [withs, List.getElem?_cons_zero, List.getElem?_cons_succ, Option.bind, Option.getD]
      repeat (with_reducible refine all_isV ?_)
      go_simp
      exact ⟨Only.refl _ _, isV.self _ _⟩
    refine owes2_cons (fun wx hox => ?_) ?_
    · skip
      skip
      refine withs_plain rfl ?_
      simp only [withs, List.getElem?_cons_zero, List.getElem?_cons_succ, Option.bind, Option.getD]
      repeat (with_reducible refine all_isV ?_)
      go_simp
      exact ⟨Only.refl _ _, isV.self _ _⟩
    refine owes2_cons (fun wx hox => ?_) ?_
    · skip
      have hg := Lib.hid (HG.out.step hox)
      have hi := Lib.hid (HI.out.step hox)
      have hr := Lib.hid (HR.out.step hox)
      obtain ⟨x7_0, x7_1⟩ := GB.c2 hg 0 rfl
      clear hg hi hr
      refine withs_plain rfl ?_
      simp only [withs, List.getElem?_cons_zero, List.getElem?_cons_succ, Option.bind, Option.getD]
      repeat (with_reducible refine all_isV ?_)
      go_simp
      exact ⟨Only.refl _ _, isV.self _ _⟩
    refine owes2_cons (fun wx hox => ?_) ?_
    · skip
      skip
      refine withs_plain rfl ?_
      simp only [withs, List.getElem?_cons_zero, List.getElem?_cons_succ, Option.bind, Option.getD]
      repeat (with_reducible refine all_isV ?_)
      go_simp
      exact ⟨Only.refl _ _, isV.self _ _⟩
    refine owes2_cons (fun wx hox => ?_) ?_
    · skip
      skip
      refine withs_plain rfl ?_
      simp only [withs, List.getElem?_cons_zero, List.getElem?_cons_succ, Option.bind, Option.getD]
      repeat (with_reducible refine all_isV ?_)
      go_simp
      exact ⟨Only.refl _ _, isV.self _ _⟩
    refine owes2_cons (fun wx hox => ?_) ?_
    · skip
      skip
      refine withs_plain rfl ?_
      simp only [withs, List.getElem?_cons_zero, List.getElem?_cons_succ, Option.bind, Option.getD]
      repeat (with_reducible refine all_isV ?_)
      go_simp
      exact ⟨Only.refl _ _, isV.self _ _⟩
    exact owes2_nil
  case hl =>
    repeat (refine List.forall_mem_cons.2 ⟨?_, ?_⟩; exact isV.lasts _)
    exact fun _ h => (by cases h)
  intro wx hox
  refine withs_of (by simp only [List.length, List.range, List.range.loop]; exact rfl) ?_
  simp only [withs, List.getElem?_cons_zero, List.getElem?_cons_succ, Option.bind, Option.getD]
  repeat (with_reducible refine all_isV ?_)
  go_simp
  as_aux_lemma =>
    replace HG := Lib.hid (HG.out.step hox)
    replace HI := Lib.hid (HI.out.step hox)
    replace HR := Lib.hid (HR.out.step hox)
    clear hox
    go_wp2_with fail
    (with_reducible refine (finiteV cx true hcx64.out hfx _).mono ?_)
    rintro e w' ⟨rfl, rfl⟩
    go_wp2_with fail
    (with_reducible refine (finiteV cy true hcy64.out hfy _).mono ?_)
    rintro e w' ⟨rfl, rfl⟩
    clear hm1 hm2 hm3 hm4 hfx hfy hka hkb hcx64 hcy64
    go_wp2_with fail
    (with_reducible refine (HP.out _).mono ?_)
    rintro e w6 ⟨sp6, Ap6, kp6, cp6, rfl, hc, hv, ho⟩
    have HV6 := Lib.hid hv
    have HC6 := Lib.hid hc
    clear hv hc
    replace HG := Lib.hid (HG.out.step ho)
    replace HI := Lib.hid (HI.out.step ho)
    replace HR := Lib.hid (HR.out.step ho)
    clear ho
    go_wp2_with fail
    (with_reducible refine (HQ.out _).mono ?_)
    rintro e w7 ⟨sq6, Aq6, kq6, cq6, rfl, hc, hv, ho⟩
    replace HV6 := Lib.hid (HV6.out.only ho)
    have HV7 := Lib.hid hv
    have HC7 := Lib.hid hc
    clear hv hc
    replace HG := Lib.hid (HG.out.step ho)
    replace HI := Lib.hid (HI.out.step ho)
    replace HR := Lib.hid (HR.out.step ho)
    clear ho
    have h_ := (HG.out.new 31 [.bool sp6, .slice Ap6 kp6 cp6, .int .i64 p.e] (noLimb3 _ _ _ _ _)).new 31 [.bool sq6, .slice Aq6 kq6 cq6, .int .i64 q.e] (noLimb3 _ _ _ _ _)
    rw [World.size_alloc] at h_
    have r_ := (((HR.out.cons HV6 HC6).cons HV7 HC7).step ((only_new w7 [.bool sp6, .slice Ap6 kp6 cp6, .int .i64 p.e] 31).nil_trans (only_new _ [.bool sq6, .slice Aq6 kq6 cq6, .int .i64 q.e] 31)))
    have i_ := HI.out.step ((only_new w7 [.bool sp6, .slice Ap6 kp6 cp6, .int .i64 p.e] 31).nil_trans (only_new _ [.bool sq6, .slice Aq6 kq6 cq6, .int .i64 q.e] 31))
    go_upto_region 7 with fail
    replace HG := Lib.hid h_
    replace HI := Lib.hid i_
    replace HR := Lib.hid r_
    clear h_ i_ r_ HV6 HV7 HC6 HC7
    generalize (w7.alloc _).alloc _ = w8 at *
    generalize hgq_ : w7.heap.size + 1 = g_q at *
    clear hgq_
    generalize w7.heap.size = g_p at *
    have hald : ∀ w : World, (Instr.alloc 37 true (.tuple #[])).run Tryd.prog w = .ok (.pointer (some ⟨w.heap.size, 0, none⟩)) (w.alloc (.cells #[.bool false, .slice none 0 0, .int .i64 0] 37)) := fun _ => by kernel_rfl
    apply wp_region_typed_tail3 15 [12, 13, 14] 37 #[.bool false, .slice none 0 0, .int .i64 0] (by kernel_rfl) (by kernel_rfl) hald (by kernel_rfl) [isV _, isV _, isRD zs, isDV zs, isV _, isV _, isRD zd, isDV zd, isV _, isV _, isRD zm, isDV zm, isPtr w8 37 [.bool false, .slice none 0 0, .int .i64 0], isPtr w8 37 [.bool false, .slice none 0 0, .int .i64 0], isPtr w8 37 [.bool false, .slice none 0 0, .int .i64 0]] [[], [], [0, 1], [2], [], [], [4, 5], [6], [], [], [8, 9], [10], [], [], []] (by kernel_rfl) (by kernel_rfl) (by kernel_rfl)
    case ho =>
      simp only [List.take_succ_cons, List.take_zero]
      refine owes2_cons (fun wx hox => ?_) ?_
      · skip
        have hg := Lib.hid (HG.out.step hox)
        have hi := Lib.hid (HI.out.step hox)
        have hr := Lib.hid (HR.out.step hox)
        obtain ⟨x8_0, x8_1, x8_2⟩ := GB.c3 hg 1 rfl
        clear hg hi hr
        refine withs_plain rfl ?_
        simp only [withs, List.getElem?_cons_zero, List.getElem?_cons_succ, Option.bind, Option.getD]
        repeat (first | (with_reducible refine all_isV ?_) | (with_reducible refine all_isRD ?_; intro sx Ax kx cx hvx hwx))
        go_simp
        exact ⟨Only.refl _ _, isV.self _ _⟩
      refine owes2_cons (fun wx hox => ?_) ?_
      · skip
        have hg := Lib.hid (HG.out.step hox)
        have hi := Lib.hid (HI.out.step hox)
        have hr := Lib.hid (HR.out.step hox)
        obtain ⟨x9_0, x9_1, x9_2⟩ := GB.c3 hg 0 rfl
        clear hg hi hr
        refine withs_plain rfl ?_
        simp only [withs, List.getElem?_cons_zero, List.getElem?_cons_succ, Option.bind, Option.getD]
        repeat (first | (with_reducible refine all_isV ?_) | (with_reducible refine all_isRD ?_; intro sx Ax kx cx hvx hwx))
        go_simp
        exact ⟨Only.refl _ _, isV.self _ _⟩
      refine owes2_cons (fun wx hox => ?_) ?_
      · skip
        have hg := Lib.hid (HG.out.step hox)
        have hi := Lib.hid (HI.out.step hox)
        have hr := Lib.hid (HR.out.step hox)
        have rd_p := (RL.rd (x := p) hr 1 rfl)
        have rd_q := (RL.rd (x := q) hr 0 rfl)
        clear hg hi hr
        refine withs_plain rfl ?_
        simp only [withs, List.getElem?_cons_zero, List.getElem?_cons_succ, Option.bind, Option.getD]
        repeat (first | (with_reducible refine all_isV ?_) | (with_reducible refine all_isRD ?_; intro sx Ax kx cx hvx hwx))
        go_simp
        (with_reducible exact grow_rd (raddV_d zs Hzs.out rd_p rd_q CP CQ Bp Bq (by omega)))
      refine owes2_cons (fun wx hox => ?_) ?_
      · skip
        skip
        refine withs_plain rfl ?_
        simp only [withs, List.getElem?_cons_zero, List.getElem?_cons_succ, Option.bind, Option.getD]
        repeat (first | (with_reducible refine all_isV ?_) | (with_reducible refine all_isRD ?_; intro sx Ax kx cx hvx hwx))
        go_simp
        (with_reducible exact grow_dv (real_d (x := zs) (RD.of (by assumption) (by assumption)) Bzs (by omega)))
      refine owes2_cons (fun wx hox => ?_) ?_
      · skip
        have hg := Lib.hid (HG.out.step hox)
        have hi := Lib.hid (HI.out.step hox)
        have hr := Lib.hid (HR.out.step hox)
        obtain ⟨x10_0, x10_1, x10_2⟩ := GB.c3 hg 1 rfl
        clear hg hi hr
        refine withs_plain rfl ?_
        simp only [withs, List.getElem?_cons_zero, List.getElem?_cons_succ, Option.bind, Option.getD]
        repeat (first | (with_reducible refine all_isV ?_) | (with_reducible refine all_isRD ?_; intro sx Ax kx cx hvx hwx))
        go_simp
        exact ⟨Only.refl _ _, isV.self _ _⟩
      refine owes2_cons (fun wx hox => ?_) ?_
      · skip
        have hg := Lib.hid (HG.out.step hox)
        have hi := Lib.hid (HI.out.step hox)
        have hr := Lib.hid (HR.out.step hox)
        obtain ⟨x11_0, x11_1, x11_2⟩ := GB.c3 hg 0 rfl
        clear hg hi hr
        refine withs_plain rfl ?_
        simp only [withs, List.getElem?_cons_zero, List.getElem?_cons_succ, Option.bind, Option.getD]
        repeat (first | (with_reducible refine all_isV ?_) | (with_reducible refine all_isRD ?_; intro sx Ax kx cx hvx hwx))
        go_simp
        exact ⟨Only.refl _ _, isV.self _ _⟩
      refine owes2_cons (fun wx hox => ?_) ?_
      · skip
        have hg := Lib.hid (HG.out.step hox)
        have hi := Lib.hid (HI.out.step hox)
        have hr := Lib.hid (HR.out.step hox)
        have rd_p := (RL.rd (x := p) hr 1 rfl)
        have rd_q := (RL.rd (x := q) hr 0 rfl)
        clear hg hi hr
        refine withs_plain rfl ?_
        simp only [withs, List.getElem?_cons_zero, List.getElem?_cons_succ, Option.bind, Option.getD]
        repeat (first | (with_reducible refine all_isV ?_) | (with_reducible refine all_isRD ?_; intro sx Ax kx cx hvx hwx))
        go_simp
        (with_reducible exact grow_rd (rsubV_d zd Hzd.out rd_p rd_q CP Bp Bq (by omega)))
      refine owes2_cons (fun wx hox => ?_) ?_
      · skip
        skip
        refine withs_plain rfl ?_
        simp only [withs, List.getElem?_cons_zero, List.getElem?_cons_succ, Option.bind, Option.getD]
        repeat (first | (with_reducible refine all_isV ?_) | (with_reducible refine all_isRD ?_; intro sx Ax kx cx hvx hwx))
        go_simp
        (with_reducible exact grow_dv (real_d (x := zd) (RD.of (by assumption) (by assumption)) Bzd (by omega)))
      refine owes2_cons (fun wx hox => ?_) ?_
      · skip
        have hg := Lib.hid (HG.out.step hox)
        have hi := Lib.hid (HI.out.step hox)
        have hr := Lib.hid (HR.out.step hox)
        obtain ⟨x12_0, x12_1, x12_2⟩ := GB.c3 hg 1 rfl
        clear hg hi hr
        refine withs_plain rfl ?_
        simp only [withs, List.getElem?_cons_zero, List.getElem?_cons_succ, Option.bind, Option.getD]
        repeat (first | (with_reducible refine all_isV ?_) | (with_reducible refine all_isRD ?_; intro sx Ax kx cx hvx hwx))
        go_simp
        exact ⟨Only.refl _ _, isV.self _ _⟩
      refine owes2_cons (fun wx hox => ?_) ?_
      · skip
        have hg := Lib.hid (HG.out.step hox)
        have hi := Lib.hid (HI.out.step hox)
        have hr := Lib.hid (HR.out.step hox)
        obtain ⟨x13_0, x13_1, x13_2⟩ := GB.c3 hg 0 rfl
        clear hg hi hr
        refine withs_plain rfl ?_
        simp only [withs, List.getElem?_cons_zero, List.getElem?_cons_succ, Option.bind, Option.getD]
        repeat (first | (with_reducible refine all_isV ?_) | (with_reducible refine all_isRD ?_; intro sx Ax kx cx hvx hwx))
        go_simp
        exact ⟨Only.refl _ _, isV.self _ _⟩
      refine owes2_cons (fun wx hox => ?_) ?_
      · skip
        have hg := Lib.hid (HG.out.step hox)
        have hi := Lib.hid (HI.out.step hox)
        have hr := Lib.hid (HR.out.step hox)
        have rd_p := (RL.rd (x := p) hr 1 rfl)
        have rd_q := (RL.rd (x := q) hr 0 rfl)
        clear hg hi hr
        refine withs_plain rfl ?_
        simp only [withs, List.getElem?_cons_zero, List.getElem?_cons_succ, Option.bind, Option.getD]
        repeat (first | (with_reducible refine all_isV ?_) | (with_reducible refine all_isRD ?_; intro sx Ax kx cx hvx hwx))
        go_simp
        (with_reducible exact grow_rd (rmulV_d zm Hzm.out rd_p rd_q Bp Bq (by omega)))
      refine owes2_cons (fun wx hox => ?_) ?_
      · skip
        skip
        refine withs_plain rfl ?_
        simp only [withs, List.getElem?_cons_zero, List.getElem?_cons_succ, Option.bind, Option.getD]
        repeat (first | (with_reducible refine all_isV ?_) | (with_reducible refine all_isRD ?_; intro sx Ax kx cx hvx hwx))
        go_simp
        (with_reducible exact grow_dv (real_d (x := zm) (RD.of (by assumption) (by assumption)) Bzm (by omega)))
      refine owes2_cons (fun wx hox => ?_) ?_
      · skip
        skip
        refine withs_plain rfl ?_
        simp only [withs, List.getElem?_cons_zero, List.getElem?_cons_succ, Option.bind, Option.getD]
        repeat (first | (with_reducible refine all_isV ?_) | (with_reducible refine all_isRD ?_; intro sx Ax kx cx hvx hwx))
        go_simp
        (exact isPtr.new hox _ _)
      refine owes2_cons (fun wx hox => ?_) ?_
      · skip
        skip
        refine withs_plain rfl ?_
        simp only [withs, List.getElem?_cons_zero, List.getElem?_cons_succ, Option.bind, Option.getD]
        repeat (first | (with_reducible refine all_isV ?_) | (with_reducible refine all_isRD ?_; intro sx Ax kx cx hvx hwx))
        go_simp
        (exact isPtr.new hox _ _)
      refine owes2_cons (fun wx hox => ?_) ?_
      · skip
        skip
        refine withs_plain rfl ?_
        simp only [withs, List.getElem?_cons_zero, List.getElem?_cons_succ, Option.bind, Option.getD]
        repeat (first | (with_reducible refine all_isV ?_) | (with_reducible refine all_isRD ?_; intro sx Ax kx cx hvx hwx))
        go_simp
        (exact isPtr.new hox _ _)
      exact owes2_nil
    case hl =>
      repeat (refine List.forall_mem_cons.2 ⟨?_, ?_⟩; first | exact isV.lasts _ | exact isRD.lasts _ | exact isDV.lasts _ | exact isPtr.lasts _ _ _)
      exact fun _ h => (by cases h)
    simp only [List.drop_succ_cons, List.drop_zero]
    intro wx hox
    refine withs_of (by simp only [List.length, List.range, List.range.loop]; exact rfl) ?_
    simp only [withs, List.getElem?_cons_zero, List.getElem?_cons_succ, Option.bind, Option.getD]
    with_reducible refine all_isV ?_
    with_reducible refine all_isV ?_
    with_reducible refine all_isRD ?_
    intro s2 A2 k2 c2 hv2 hw2
    with_reducible refine all_isDV ?_
    intro s3 A3 k3 c3 hv3
    with_reducible refine all_isV ?_
    with_reducible refine all_isV ?_
    with_reducible refine all_isRD ?_
    intro s6 A6 k6 c6 hv6 hw6
    with_reducible refine all_isDV ?_
    intro s7 A7 k7 c7 hv7
    with_reducible refine all_isV ?_
    with_reducible refine all_isV ?_
    with_reducible refine all_isRD ?_
    intro s10 A10 k10 c10 hv10 hw10
    with_reducible refine all_isDV ?_
    intro s11 A11 k11 c11 hv11
    with_reducible refine all_isPtr ?_
    intro g12 hb12 hg12
    with_reducible refine all_isPtr ?_
    intro g13 hb13 hg13
    with_reducible refine all_isPtr ?_
    intro g14 hb14 hg14
    go_simp
    as_aux_lemma =>
      intro hap
      have n0_1 : ¬ g12 = g13 := fun hc => hap 12 (by decide) 13 (by decide) (by decide) 11 12 rfl rfl (by rw [hc]; rfl)
      have N0_1 := Lib.hid n0_1
      have N1_0 : Hid (¬ g13 = g12) := fun hc => n0_1 hc.symm
      clear n0_1
      have n0_2 : ¬ g12 = g14 := fun hc => hap 12 (by decide) 14 (by decide) (by decide) 11 13 rfl rfl (by rw [hc]; rfl)
      have N0_2 := Lib.hid n0_2
      have N2_0 : Hid (¬ g14 = g12) := fun hc => n0_2 hc.symm
      clear n0_2
      have n1_2 : ¬ g13 = g14 := fun hc => hap 13 (by decide) 14 (by decide) (by decide) 12 13 rfl rfl (by rw [hc]; rfl)
      have N1_2 := Lib.hid n1_2
      have N2_1 : Hid (¬ g14 = g13) := fun hc => n1_2 hc.symm
      clear n1_2
      clear hap
      have hsz := HG.out.only.size
      have hga0 := hg12.out
      have Ng0 : Hid (w.heap.size ≤ g12) := Nat.le_trans hsz hga0
      have Ne0 := Lib.hid (GB.apart HG.out hg12.out)
      have BL0 := hb12
      clear hga0 hb12 hg12
      have hga1 := hg13.out
      have Ng1 : Hid (w.heap.size ≤ g13) := Nat.le_trans hsz hga1
      have Ne1 := Lib.hid (GB.apart HG.out hg13.out)
      have BL1 := hb13
      clear hga1 hb13 hg13
      have hga2 := hg14.out
      have Ng2 : Hid (w.heap.size ≤ g14) := Nat.le_trans hsz hga2
      have Ne2 := Lib.hid (GB.apart HG.out hg14.out)
      have BL2 := hb14
      clear hga2 hb14 hg14
      clear hsz
      replace HG := Lib.hid (HG.out.step hox)
      replace HI := Lib.hid (HI.out.step hox)
      replace HR := Lib.hid (HR.out.step hox)
      clear hox
      replace HI := Lib.hid (HI.out.cons hv3)
      replace HI := Lib.hid (HI.out.cons hv7)
      replace HI := Lib.hid (HI.out.cons hv11)
      have HG9 := Lib.hid (HG.out.adopt3 (u := .bool s3) (v := .slice A3 k3 c3) (x := .int .i64 zs.e) BL0.out (noLimb3 _ _ _ _ _) Ng0.out Ne0.out)
      have HI9 := Lib.hid (HI.out.far (only_set3 wx g12 (.bool s3) (.slice A3 k3 c3) (.int .i64 zs.e)) BL0.out (noLimb3 _ _ _ _ _))
      have HR9 := Lib.hid (HR.out.far (only_set3 wx g12 (.bool s3) (.slice A3 k3 c3) (.int .i64 zs.e)) BL0.out (noLimb3 _ _ _ _ _))
      replace BL1 := Lib.hid (Blk.farX BL1.out (only_set3 wx g12 (.bool s3) (.slice A3 k3 c3) (.int .i64 zs.e)) N1_0.out)
      replace BL2 := Lib.hid (Blk.farX BL2.out (only_set3 wx g12 (.bool s3) (.slice A3 k3 c3) (.int .i64 zs.e)) N2_0.out)
      refine wpList_store 37 (.tmp 11) (.tmp 62) rfl rfl rfl (u := .pointer (some ⟨g12, 0, none⟩)) (v := .agg #[.bool s3, .slice A3 k3 c3, .int .i64 zs.e]) (by kernel_rfl) (by kernel_rfl) (store_dy BL0.out _ _ _ _ _) ?_
      clear HG HI HR BL0 Ne0 Ng0
      generalize ((wx.setCell _ _).setCell _ _).setCell _ _ = wy0_w9 at *
      have HG := HG9
      have HI := HI9
      have HR := HR9
      clear HG9 HI9 HR9
      have HG9 := Lib.hid (HG.out.adopt3 (u := .bool s7) (v := .slice A7 k7 c7) (x := .int .i64 zd.e) BL1.out (noLimb3 _ _ _ _ _) Ng1.out (GB.apart1 Ne1.out N0_1.out))
      have HI9 := Lib.hid (HI.out.far (only_set3 wy0_w9 g13 (.bool s7) (.slice A7 k7 c7) (.int .i64 zd.e)) BL1.out (noLimb3 _ _ _ _ _))
      have HR9 := Lib.hid (HR.out.far (only_set3 wy0_w9 g13 (.bool s7) (.slice A7 k7 c7) (.int .i64 zd.e)) BL1.out (noLimb3 _ _ _ _ _))
      replace BL2 := Lib.hid (Blk.farX BL2.out (only_set3 wy0_w9 g13 (.bool s7) (.slice A7 k7 c7) (.int .i64 zd.e)) N2_1.out)
      refine wpList_store 37 (.tmp 12) (.tmp 66) rfl rfl rfl (u := .pointer (some ⟨g13, 0, none⟩)) (v := .agg #[.bool s7, .slice A7 k7 c7, .int .i64 zd.e]) (by kernel_rfl) (by kernel_rfl) (store_dy BL1.out _ _ _ _ _) ?_
      clear HG HI HR BL1 Ne1 Ng1
      generalize ((wy0_w9.setCell _ _).setCell _ _).setCell _ _ = wy1_w9 at *
      have HG := HG9
      have HI := HI9
      have HR := HR9
      clear HG9 HI9 HR9
      have HG9 := Lib.hid (HG.out.adopt3 (u := .bool s11) (v := .slice A11 k11 c11) (x := .int .i64 zm.e) BL2.out (noLimb3 _ _ _ _ _) Ng2.out (GB.apart1 (GB.apart1 Ne2.out N0_2.out) N1_2.out))
      have HI9 := Lib.hid (HI.out.far (only_set3 wy1_w9 g14 (.bool s11) (.slice A11 k11 c11) (.int .i64 zm.e)) BL2.out (noLimb3 _ _ _ _ _))
      have HR9 := Lib.hid (HR.out.far (only_set3 wy1_w9 g14 (.bool s11) (.slice A11 k11 c11) (.int .i64 zm.e)) BL2.out (noLimb3 _ _ _ _ _))
      refine wpList_store 37 (.tmp 13) (.tmp 70) rfl rfl rfl (u := .pointer (some ⟨g14, 0, none⟩)) (v := .agg #[.bool s11, .slice A11 k11 c11, .int .i64 zm.e]) (by kernel_rfl) (by kernel_rfl) (store_dy BL2.out _ _ _ _ _) ?_
      clear HG HI HR BL2 Ne2 Ng2
      generalize ((wy1_w9.setCell _ _).setCell _ _).setCell _ _ = wy2_w9 at *
      have HG := HG9
      have HI := HI9
      have HR := HR9
      clear HG9 HI9 HR9
      clear N0_1 N0_2 N1_0 N1_2 N2_0 N2_1
      go_upto_region 8 with fail
      generalize hww_ : wy2_w9 = w9 at *
      clear hww_
      generalize hgg_ : g12 = g_zs at *
      clear hgg_
      generalize hgg_ : g13 = g_zd at *
      clear hgg_
      generalize hgg_ : g14 = g_zm at *
      clear hgg_
      clear hald
      apply wp_region_typed2 (by kernel_rfl) [isV _, isV _, isV _, isV _, isV _, isV _, isV _, isV _, isV _, isV _, isV _, isV _, isV _, isV _, isV _, isV _, isV _, isV _, isV _, isV _, isV _, isV _] [[], [], [0, 1], [], [2, 3], [4], [5], [6], [6], [6, 7, 8], [6], [6, 9, 10], [6, 11], [6, 12], [13], [14], [14], [14, 15, 16], [14], [14, 17, 18], [14, 19], [14, 20]] (by kernel_rfl) (by kernel_rfl)
      case ho =>
        refine owes2_cons (fun wx hox => ?_) ?_
        · skip
          have hg := Lib.hid (HG.out.step hox)
          have hi := Lib.hid (HI.out.step hox)
          have hr := Lib.hid (HR.out.step hox)
          obtain ⟨x14_0, x14_1⟩ := GB.c2 hg 6 rfl
          clear hg hi hr
          refine withs_plain rfl ?_
          simp only [withs, List.getElem?_cons_zero, List.getElem?_cons_succ, Option.bind, Option.getD]
          repeat (with_reducible refine all_isV ?_)
          go_simp
          exact ⟨Only.refl _ _, isV.self _ _⟩
        refine owes2_cons (fun wx hox => ?_) ?_
        · skip
          have hg := Lib.hid (HG.out.step hox)
          have hi := Lib.hid (HI.out.step hox)
          have hr := Lib.hid (HR.out.step hox)
          obtain ⟨x15_0, x15_1⟩ := GB.c2 hg 5 rfl
          clear hg hi hr
          refine withs_plain rfl ?_
          simp only [withs, List.getElem?_cons_zero, List.getElem?_cons_succ, Option.bind, Option.getD]
          repeat (with_reducible refine all_isV ?_)
          go_simp
          exact ⟨Only.refl _ _, isV.self _ _⟩
        refine owes2_cons (fun wx hox => ?_) ?_
        · skip
          skip
          refine withs_plain rfl ?_
          simp only [withs, List.getElem?_cons_zero, List.getElem?_cons_succ, Option.bind, Option.getD]
          repeat (with_reducible refine all_isV ?_)
          go_simp
          (with_reducible exact grow_of (HC1.out _))
        refine owes2_cons (fun wx hox => ?_) ?_
        · skip
          have hg := Lib.hid (HG.out.step hox)
          have hi := Lib.hid (HI.out.step hox)
          have hr := Lib.hid (HR.out.step hox)
          obtain ⟨x16_0, x16_1, x16_2⟩ := GB.c3 hg 2 rfl
          clear hg hi hr
          refine withs_plain rfl ?_
          simp only [withs, List.getElem?_cons_zero, List.getElem?_cons_succ, Option.bind, Option.getD]
          repeat (with_reducible refine all_isV ?_)
          go_simp
          exact ⟨Only.refl _ _, isV.self _ _⟩
        refine owes2_cons (fun wx hox => ?_) ?_
        · skip
          have hg := Lib.hid (HG.out.step hox)
          have hi := Lib.hid (HI.out.step hox)
          have hr := Lib.hid (HR.out.step hox)
          have dv_zs := (WL.dv (x := zs) hi 2 rfl)
          have htx := Lib.hid (hT.out.keep hg.out.only)
          clear hg hi hr
          refine withs_plain rfl ?_
          simp only [withs, List.getElem?_cons_zero, List.getElem?_cons_succ, Option.bind, Option.getD]
          repeat (with_reducible refine all_isV ?_)
          go_simp
          (with_reducible exact grow_of (HH1.out _ _ dv_zs htx))
        refine owes2_cons (fun wx hox => ?_) ?_
        · skip
          skip
          refine withs_plain rfl ?_
          simp only [withs, List.getElem?_cons_zero, List.getElem?_cons_succ, Option.bind, Option.getD]
          repeat (with_reducible refine all_isV ?_)
          go_simp
          exact ⟨Only.refl _ _, isV.self _ _⟩
        refine owes2_cons (fun wx hox => ?_) ?_
        · skip
          skip
          refine withs_plain rfl ?_
          simp only [withs, List.getElem?_cons_zero, List.getElem?_cons_succ, Option.bind, Option.getD]
          repeat (with_reducible refine all_isV ?_)
          go_simp
          exact ⟨Only.refl _ _, isV.self _ _⟩
        refine owes2_cons (fun wx hox => ?_) ?_
        · skip
          have hg := Lib.hid (HG.out.step hox)
          have hi := Lib.hid (HI.out.step hox)
          have hr := Lib.hid (HR.out.step hox)
          obtain ⟨x17_0, x17_1⟩ := GB.c2 hg 6 rfl
          clear hg hi hr
          refine withs_guard rfl rfl ?_
          simp only [withs, List.getElem?_cons_zero, List.getElem?_cons_succ, Option.bind, Option.getD]
          repeat (with_reducible refine all_isV ?_)
          refine ⟨by kernel_rfl, ?_⟩
          go_simp
          exact ⟨Only.refl _ _, isV.self _ _⟩
        refine owes2_cons (fun wx hox => ?_) ?_
        · skip
          have hg := Lib.hid (HG.out.step hox)
          have hi := Lib.hid (HI.out.step hox)
          have hr := Lib.hid (HR.out.step hox)
          obtain ⟨x18_0, x18_1⟩ := GB.c2 hg 5 rfl
          clear hg hi hr
          refine withs_guard rfl rfl ?_
          simp only [withs, List.getElem?_cons_zero, List.getElem?_cons_succ, Option.bind, Option.getD]
          repeat (with_reducible refine all_isV ?_)
          refine ⟨by kernel_rfl, ?_⟩
          go_simp
          exact ⟨Only.refl _ _, isV.self _ _⟩
        refine owes2_cons (fun wx hox => ?_) ?_
        · skip
          skip
          refine withs_guard rfl rfl ?_
          simp only [withs, List.getElem?_cons_zero, List.getElem?_cons_succ, Option.bind, Option.getD]
          repeat (with_reducible refine all_isV ?_)
          refine ⟨by kernel_rfl, ?_⟩
          go_simp
          (with_reducible exact grow_of (HC2.out _))
        refine owes2_cons (fun wx hox => ?_) ?_
        · skip
          have hg := Lib.hid (HG.out.step hox)
          have hi := Lib.hid (HI.out.step hox)
          have hr := Lib.hid (HR.out.step hox)
          obtain ⟨x19_0, x19_1, x19_2⟩ := GB.c3 hg 1 rfl
          clear hg hi hr
          refine withs_guard rfl rfl ?_
          simp only [withs, List.getElem?_cons_zero, List.getElem?_cons_succ, Option.bind, Option.getD]
          repeat (with_reducible refine all_isV ?_)
          refine ⟨by kernel_rfl, ?_⟩
          go_simp
          exact ⟨Only.refl _ _, isV.self _ _⟩
        refine owes2_cons (fun wx hox => ?_) ?_
        · skip
          have hg := Lib.hid (HG.out.step hox)
          have hi := Lib.hid (HI.out.step hox)
          have hr := Lib.hid (HR.out.step hox)
          have dv_zd := (WL.dv (x := zd) hi 1 rfl)
          have htx := Lib.hid (hT.out.keep hg.out.only)
          clear hg hi hr
          refine withs_guard rfl rfl ?_
          simp only [withs, List.getElem?_cons_zero, List.getElem?_cons_succ, Option.bind, Option.getD]
          repeat (with_reducible refine all_isV ?_)
          refine ⟨by kernel_rfl, ?_⟩
          go_simp
          (with_reducible exact grow_of (HH2.out _ _ dv_zd htx))
        refine owes2_cons (fun wx hox => ?_) ?_
        · skip
          skip
          refine withs_guard rfl rfl ?_
          simp only [withs, List.getElem?_cons_zero, List.getElem?_cons_succ, Option.bind, Option.getD]
          repeat (with_reducible refine all_isV ?_)
          refine ⟨by kernel_rfl, ?_⟩
          go_simp
          exact ⟨Only.refl _ _, isV.self _ _⟩
        refine owes2_cons (fun wx hox => ?_) ?_
        · skip
          skip
          refine withs_plain rfl ?_
          simp only [withs, List.getElem?_cons_zero, List.getElem?_cons_succ, Option.bind, Option.getD]
          repeat (with_reducible refine all_isV ?_)
          go_simp
          exact ⟨Only.refl _ _, isV.self _ _⟩
        refine owes2_cons (fun wx hox => ?_) ?_
        · skip
          skip
          refine withs_plain rfl ?_
          simp only [withs, List.getElem?_cons_zero, List.getElem?_cons_succ, Option.bind, Option.getD]
          repeat (with_reducible refine all_isV ?_)
          go_simp
          exact ⟨Only.refl _ _, isV.self _ _⟩
        refine owes2_cons (fun wx hox => ?_) ?_
        · skip
          have hg := Lib.hid (HG.out.step hox)
          have hi := Lib.hid (HI.out.step hox)
          have hr := Lib.hid (HR.out.step hox)
          obtain ⟨x20_0, x20_1⟩ := GB.c2 hg 6 rfl
          clear hg hi hr
          refine withs_guard rfl rfl ?_
          simp only [withs, List.getElem?_cons_zero, List.getElem?_cons_succ, Option.bind, Option.getD]
          repeat (with_reducible refine all_isV ?_)
          refine ⟨by kernel_rfl, ?_⟩
          go_simp
          exact ⟨Only.refl _ _, isV.self _ _⟩
        refine owes2_cons (fun wx hox => ?_) ?_
        · skip
          have hg := Lib.hid (HG.out.step hox)
          have hi := Lib.hid (HI.out.step hox)
          have hr := Lib.hid (HR.out.step hox)
          obtain ⟨x21_0, x21_1⟩ := GB.c2 hg 5 rfl
          clear hg hi hr
          refine withs_guard rfl rfl ?_
          simp only [withs, List.getElem?_cons_zero, List.getElem?_cons_succ, Option.bind, Option.getD]
          repeat (with_reducible refine all_isV ?_)
          refine ⟨by kernel_rfl, ?_⟩
          go_simp
          exact ⟨Only.refl _ _, isV.self _ _⟩
        refine owes2_cons (fun wx hox => ?_) ?_
        · skip
          skip
          refine withs_guard rfl rfl ?_
          simp only [withs, List.getElem?_cons_zero, List.getElem?_cons_succ, Option.bind, Option.getD]
          repeat (with_reducible refine all_isV ?_)
          refine ⟨by kernel_rfl, ?_⟩
          go_simp
          (with_reducible exact grow_of (HC3.out _))
        refine owes2_cons (fun wx hox => ?_) ?_
        · skip
          have hg := Lib.hid (HG.out.step hox)
          have hi := Lib.hid (HI.out.step hox)
          have hr := Lib.hid (HR.out.step hox)
          obtain ⟨x22_0, x22_1, x22_2⟩ := GB.c3 hg 0 rfl
          clear hg hi hr
          refine withs_guard rfl rfl ?_
          simp only [withs, List.getElem?_cons_zero, List.getElem?_cons_succ, Option.bind, Option.getD]
          repeat (with_reducible refine all_isV ?_)
          refine ⟨by kernel_rfl, ?_⟩
          go_simp
          exact ⟨Only.refl _ _, isV.self _ _⟩
        refine owes2_cons (fun wx hox => ?_) ?_
        · skip
          have hg := Lib.hid (HG.out.step hox)
          have hi := Lib.hid (HI.out.step hox)
          have hr := Lib.hid (HR.out.step hox)
          have dv_zm := (WL.dv (x := zm) hi 0 rfl)
          have htx := Lib.hid (hT.out.keep hg.out.only)
          clear hg hi hr
          refine withs_guard rfl rfl ?_
          simp only [withs, List.getElem?_cons_zero, List.getElem?_cons_succ, Option.bind, Option.getD]
          repeat (with_reducible refine all_isV ?_)
          refine ⟨by kernel_rfl, ?_⟩
          go_simp
          (with_reducible exact grow_of (HH3.out _ _ dv_zm htx))
        refine owes2_cons (fun wx hox => ?_) ?_
        · skip
          skip
          refine withs_guard rfl rfl ?_
          simp only [withs, List.getElem?_cons_zero, List.getElem?_cons_succ, Option.bind, Option.getD]
          repeat (with_reducible refine all_isV ?_)
          refine ⟨by kernel_rfl, ?_⟩
          go_simp
          exact ⟨Only.refl _ _, isV.self _ _⟩
        refine owes2_cons (fun wx hox => ?_) ?_
        · skip
          skip
          refine withs_plain rfl ?_
          simp only [withs, List.getElem?_cons_zero, List.getElem?_cons_succ, Option.bind, Option.getD]
          repeat (with_reducible refine all_isV ?_)
          go_simp
          exact ⟨Only.refl _ _, isV.self _ _⟩
        exact owes2_nil
      case hl =>
        repeat (refine List.forall_mem_cons.2 ⟨?_, ?_⟩; exact isV.lasts _)
        exact fun _ h => (by cases h)
      intro wx hox
      refine withs_of (by simp only [List.length, List.range, List.range.loop]; exact rfl) ?_
      simp only [withs, List.getElem?_cons_zero, List.getElem?_cons_succ, Option.bind, Option.getD]
      repeat (with_reducible refine all_isV ?_)
      go_simp
      as_aux_lemma =>
        replace HG := Lib.hid (HG.out.step hox)
        replace HI := Lib.hid (HI.out.step hox)
        replace HR := Lib.hid (HR.out.step hox)
        clear hox
        obtain ⟨x23_0, x23_1⟩ := GB.c2 HG 6 rfl
        obtain ⟨x24_0, x24_1⟩ := GB.c2 HG 5 rfl
        go_wp2_with fail
        (with_reducible refine (HC4.out _).mono ?_)
        rintro e w10 ⟨rfl, ho⟩
        clear x23_0 x23_1 x24_0 x24_1
        have h_ := HG.out.step ho
        have i_ := HI.out.step ho
        have r_ := HR.out.step ho
        replace h_ := h_.new 24 [.float .f64 X4, .float .f64 Y4] (noLimb2f _ _)
        replace i_ := i_.step ((Only.refl [] w10).alloc (.cells #[.float .f64 X4, .float .f64 Y4] 24))
        replace r_ := r_.step ((Only.refl [] w10).alloc (.cells #[.float .f64 X4, .float .f64 Y4] 24))
        replace HG := Lib.hid h_
        replace HI := Lib.hid i_
        replace HR := Lib.hid r_
        clear h_ i_ r_ ho
        go_upto_region 11 with fail
        generalize w10.heap.size = g_d at *
        generalize w10.alloc _ = w11 at *
        obtain ⟨x25_0, x25_1, x25_2⟩ := GB.c3 HG 4 rfl
        go_wp2_with fail
        (with_reducible refine (rsign_d sq (RL.rd (x := q) HR 0 rfl) Hsq.out).mono ?_)
        rintro e w104 ⟨rfl, ho⟩
        replace HG := Lib.hid (HG.out.step ho)
        replace HI := Lib.hid (HI.out.step ho)
        replace HR := Lib.hid (HR.out.step ho)
        clear ho
        clear x25_0 x25_1 x25_2
        subst hsq0
        obtain ⟨x26_0, x26_1⟩ := GB.c2 HG 7 rfl
        go_wp2_with fail
        (with_reducible refine (HC5.out _).mono ?_)
        rintro e w15 ⟨rfl, ho⟩
        clear x26_0 x26_1
        have h_ := HG.out.step ho
        have i_ := HI.out.step ho
        have r_ := HR.out.step ho
        replace h_ := h_.new 24 [.float .f64 X5, .float .f64 Y5] (noLimb2f _ _)
        replace i_ := i_.step ((Only.refl [] w15).alloc (.cells #[.float .f64 X5, .float .f64 Y5] 24))
        replace r_ := r_.step ((Only.refl [] w15).alloc (.cells #[.float .f64 X5, .float .f64 Y5] 24))
        replace HG := Lib.hid h_
        replace HI := Lib.hid i_
        replace HR := Lib.hid r_
        clear h_ i_ r_ ho
        go_upto_region 16 with fail
        generalize w15.heap.size = g_r at *
        generalize w15.alloc _ = w16 at *
        obtain ⟨x27_0, x27_1, x27_2⟩ := GB.c3 HG 6 rfl
        go_wp2_with fail
        (with_reducible refine (rsign_d sp (RL.rd (x := p) HR 1 rfl) Hsp.out).mono ?_)
        rintro e w105 ⟨rfl, ho⟩
        replace HG := Lib.hid (HG.out.step ho)
        replace HI := Lib.hid (HI.out.step ho)
        replace HR := Lib.hid (HR.out.step ho)
        clear ho
        clear x27_0 x27_1 x27_2
        rcases HRC.out with h1 | ⟨h1, h2⟩ | ⟨h1, h2, hrest⟩
        · skip
          go_wp2_with fail
          go_ret
          exact ⟨rfl, HG.out.only⟩
        · skip
          obtain ⟨x28_0, x28_1⟩ := GB.c2 HG 0 rfl
          go_wp2_with fail
          (with_reducible refine (knownV X5 Y5 false hX5.out hY5.out h2 _).mono ?_)
          rintro e w106 ⟨rfl, ho⟩
          replace HG := Lib.hid (HG.out.step ho)
          replace HI := Lib.hid (HI.out.step ho)
          replace HR := Lib.hid (HR.out.step ho)
          clear ho
          clear x28_0 x28_1
          go_wp2_with fail
          go_ret
          exact ⟨rfl, HG.out.only⟩
        · skip
          obtain ⟨x28_0, x28_1⟩ := GB.c2 HG 0 rfl
          go_wp2_with fail
          (with_reducible refine (knownV X5 Y5 true hX5.out hY5.out h2 _).mono ?_)
          rintro e w106 ⟨rfl, ho⟩
          replace HG := Lib.hid (HG.out.step ho)
          replace HI := Lib.hid (HI.out.step ho)
          replace HR := Lib.hid (HR.out.step ho)
          clear ho
          clear x28_0 x28_1
          have HREST := Lib.hid hrest
          clear hrest
          go_upto_region 18 with fail
          have halr : ∀ w : World, (Instr.alloc 31 true (.tuple #[])).run Tryd.prog w = .ok (.pointer (some ⟨w.heap.size, 0, none⟩)) (w.alloc (.cells #[.bool false, .slice none 0 0, .int .i64 0] 31)) := fun _ => by kernel_rfl
          apply wp_region_typed_tail3 8 [6, 7] 31 #[.bool false, .slice none 0 0, .int .i64 0] (by kernel_rfl) (by kernel_rfl) halr (by kernel_rfl) [isV _, isV _, isRD u, isV _, isV _, isRD v, isPtr w106 31 [.bool false, .slice none 0 0, .int .i64 0], isPtr w106 31 [.bool false, .slice none 0 0, .int .i64 0]] [[], [0], [1], [], [3], [4], [], []] (by kernel_rfl) (by kernel_rfl) (by kernel_rfl)
          case ho =>
            simp only [List.take_succ_cons, List.take_zero]
            refine owes2_cons (fun wx hox => ?_) ?_
            · skip
              skip
              refine withs_plain rfl ?_
              simp only [withs, List.getElem?_cons_zero, List.getElem?_cons_succ, Option.bind, Option.getD]
              repeat (first | (with_reducible refine all_isV ?_) | (with_reducible refine all_isRD ?_; intro sx Ax kx cx hvx hwx))
              go_simp
              exact ⟨Only.refl _ _, isV.self _ _⟩
            refine owes2_cons (fun wx hox => ?_) ?_
            · skip
              have hg := Lib.hid (HG.out.step hox)
              have hi := Lib.hid (HI.out.step hox)
              have hr := Lib.hid (HR.out.step hox)
              obtain ⟨x29_0, x29_1⟩ := GB.c2 hg 0 rfl
              clear hg hi hr
              refine withs_plain rfl ?_
              simp only [withs, List.getElem?_cons_zero, List.getElem?_cons_succ, Option.bind, Option.getD]
              repeat (first | (with_reducible refine all_isV ?_) | (with_reducible refine all_isRD ?_; intro sx Ax kx cx hvx hwx))
              go_simp
              exact ⟨Only.refl _ _, isV.self _ _⟩
            refine owes2_cons (fun wx hox => ?_) ?_
            · skip
              skip
              refine withs_plain rfl ?_
              simp only [withs, List.getElem?_cons_zero, List.getElem?_cons_succ, Option.bind, Option.getD]
              repeat (first | (with_reducible refine all_isV ?_) | (with_reducible refine all_isRD ?_; intro sx Ax kx cx hvx hwx))
              go_simp
              (with_reducible exact grow_rd (HU.out h2 _))
            refine owes2_cons (fun wx hox => ?_) ?_
            · skip
              skip
              refine withs_plain rfl ?_
              simp only [withs, List.getElem?_cons_zero, List.getElem?_cons_succ, Option.bind, Option.getD]
              repeat (first | (with_reducible refine all_isV ?_) | (with_reducible refine all_isRD ?_; intro sx Ax kx cx hvx hwx))
              go_simp
              exact ⟨Only.refl _ _, isV.self _ _⟩
            refine owes2_cons (fun wx hox => ?_) ?_
            · skip
              have hg := Lib.hid (HG.out.step hox)
              have hi := Lib.hid (HI.out.step hox)
              have hr := Lib.hid (HR.out.step hox)
              obtain ⟨x30_0, x30_1⟩ := GB.c2 hg 0 rfl
              clear hg hi hr
              refine withs_plain rfl ?_
              simp only [withs, List.getElem?_cons_zero, List.getElem?_cons_succ, Option.bind, Option.getD]
              repeat (first | (with_reducible refine all_isV ?_) | (with_reducible refine all_isRD ?_; intro sx Ax kx cx hvx hwx))
              go_simp
              exact ⟨Only.refl _ _, isV.self _ _⟩
            refine owes2_cons (fun wx hox => ?_) ?_
            · skip
              skip
              refine withs_plain rfl ?_
              simp only [withs, List.getElem?_cons_zero, List.getElem?_cons_succ, Option.bind, Option.getD]
              repeat (first | (with_reducible refine all_isV ?_) | (with_reducible refine all_isRD ?_; intro sx Ax kx cx hvx hwx))
              go_simp
              (with_reducible exact grow_rd (HV.out h2 _))
            refine owes2_cons (fun wx hox => ?_) ?_
            · skip
              skip
              refine withs_plain rfl ?_
              simp only [withs, List.getElem?_cons_zero, List.getElem?_cons_succ, Option.bind, Option.getD]
              repeat (first | (with_reducible refine all_isV ?_) | (with_reducible refine all_isRD ?_; intro sx Ax kx cx hvx hwx))
              go_simp
              (exact isPtr.new hox _ _)
            refine owes2_cons (fun wx hox => ?_) ?_
            · skip
              skip
              refine withs_plain rfl ?_
              simp only [withs, List.getElem?_cons_zero, List.getElem?_cons_succ, Option.bind, Option.getD]
              repeat (first | (with_reducible refine all_isV ?_) | (with_reducible refine all_isRD ?_; intro sx Ax kx cx hvx hwx))
              go_simp
              (exact isPtr.new hox _ _)
            exact owes2_nil
          case hl =>
            repeat (refine List.forall_mem_cons.2 ⟨?_, ?_⟩; first | exact isV.lasts _ | exact isRD.lasts _ | exact isPtr.lasts _ _ _)
            exact fun _ h => (by cases h)
          simp only [List.drop_succ_cons, List.drop_zero]
          intro wx hox
          refine withs_of (by simp only [List.length, List.range, List.range.loop]; exact rfl) ?_
          simp only [withs, List.getElem?_cons_zero, List.getElem?_cons_succ, Option.bind, Option.getD]
          with_reducible refine all_isV ?_
          with_reducible refine all_isV ?_
          with_reducible refine all_isRD ?_
          intro s2 A2 k2 c2 hv2 hw2
          with_reducible refine all_isV ?_
          with_reducible refine all_isV ?_
          with_reducible refine all_isRD ?_
          intro s5 A5 k5 c5 hv5 hw5
          with_reducible refine all_isPtr ?_
          intro g6 hb6 hg6
          with_reducible refine all_isPtr ?_
          intro g7 hb7 hg7
          go_simp
          as_aux_lemma =>
            intro hap
            have n0_1 : ¬ g6 = g7 := fun hc => hap 6 (by decide) 7 (by decide) (by decide) 18 19 rfl rfl (by rw [hc]; rfl)
            have N0_1 := Lib.hid n0_1
            have N1_0 : Hid (¬ g7 = g6) := fun hc => n0_1 hc.symm
            clear n0_1
            clear hap
            have hsz := HG.out.only.size
            have hga0 := hg6.out
            have Ng0 : Hid (w.heap.size ≤ g6) := Nat.le_trans hsz hga0
            have Ne0 := Lib.hid (GB.apart HG.out hg6.out)
            have BL0 := hb6
            clear hga0 hb6 hg6
            have hga1 := hg7.out
            have Ng1 : Hid (w.heap.size ≤ g7) := Nat.le_trans hsz hga1
            have Ne1 := Lib.hid (GB.apart HG.out hg7.out)
            have BL1 := hb7
            clear hga1 hb7 hg7
            clear hsz
            replace HG := Lib.hid (HG.out.step hox)
            replace HI := Lib.hid (HI.out.step hox)
            replace HR := Lib.hid (HR.out.step hox)
            clear hox
            replace HR := Lib.hid (HR.out.cons hv2 hw2)
            replace HR := Lib.hid (HR.out.cons hv5 hw5)
            have HG9 := Lib.hid (HG.out.adopt3 (u := .bool s2) (v := .slice A2 k2 c2) (x := .int .i64 u.e) BL0.out (noLimb3 _ _ _ _ _) Ng0.out Ne0.out)
            have HI9 := Lib.hid (HI.out.far (only_set3 wx g6 (.bool s2) (.slice A2 k2 c2) (.int .i64 u.e)) BL0.out (noLimb3 _ _ _ _ _))
            have HR9 := Lib.hid (HR.out.far (only_set3 wx g6 (.bool s2) (.slice A2 k2 c2) (.int .i64 u.e)) BL0.out (noLimb3 _ _ _ _ _))
            replace BL1 := Lib.hid (Blk.farX BL1.out (only_set3 wx g6 (.bool s2) (.slice A2 k2 c2) (.int .i64 u.e)) N1_0.out)
            refine wpList_store 31 (.tmp 18) (.tmp 135) rfl rfl rfl (u := .pointer (some ⟨g6, 0, none⟩)) (v := .agg #[.bool s2, .slice A2 k2 c2, .int .i64 u.e]) (by kernel_rfl) (by kernel_rfl) (store_rd BL0.out _ _ _ _ _) ?_
            clear HG HI HR BL0 Ne0 Ng0
            generalize ((wx.setCell _ _).setCell _ _).setCell _ _ = wy0_w19 at *
            have HG := HG9
            have HI := HI9
            have HR := HR9
            clear HG9 HI9 HR9
            have HG9 := Lib.hid (HG.out.adopt3 (u := .bool s5) (v := .slice A5 k5 c5) (x := .int .i64 v.e) BL1.out (noLimb3 _ _ _ _ _) Ng1.out (GB.apart1 Ne1.out N0_1.out))
            have HI9 := Lib.hid (HI.out.far (only_set3 wy0_w19 g7 (.bool s5) (.slice A5 k5 c5) (.int .i64 v.e)) BL1.out (noLimb3 _ _ _ _ _))
            have HR9 := Lib.hid (HR.out.far (only_set3 wy0_w19 g7 (.bool s5) (.slice A5 k5 c5) (.int .i64 v.e)) BL1.out (noLimb3 _ _ _ _ _))
            refine wpList_store 31 (.tmp 19) (.tmp 138) rfl rfl rfl (u := .pointer (some ⟨g7, 0, none⟩)) (v := .agg #[.bool s5, .slice A5 k5 c5, .int .i64 v.e]) (by kernel_rfl) (by kernel_rfl) (store_rd BL1.out _ _ _ _ _) ?_
            clear HG HI HR BL1 Ne1 Ng1
            generalize ((wy0_w19.setCell _ _).setCell _ _).setCell _ _ = wy1_w19 at *
            have HG := HG9
            have HI := HI9
            have HR := HR9
            clear HG9 HI9 HR9
            clear N0_1 N1_0
            go_upto_region 19 with fail
            generalize hww_ : wy1_w19 = w19 at *
            clear hww_
            generalize hgg_ : g6 = g_u at *
            clear hgg_
            generalize hgg_ : g7 = g_v at *
            clear hgg_
            clear halr
            rcases HREST.out with ⟨k1, k2, k3⟩ | ⟨k1, k4, k2, k3⟩
            · skip
              apply wp_region_typed2 (by kernel_rfl) [isV _, isV _, isV _, isV _, isV undef, isV undef, isV undef, isV undef, isV undef, isV undef, isV _, isV _, isV _, isV _, isV _, isV _, isV _, isV _, isV _, isRD mv, isV _, isV _, isV _, isV _, isV _] [[], [0], [1], [2], [3], [3], [3, 4, 5], [3], [3, 6, 7], [3, 8], [3, 9], [10], [11], [11, 12], [11, 13], [11, 14], [15], [16], [16], [16, 17, 18], [16], [16, 19, 20], [16, 21], [16, 22], [23]] (by kernel_rfl) (by kernel_rfl)
              case ho =>
                refine owes2_cons (fun wx hox => ?_) ?_
                · skip
                  have hg := Lib.hid (HG.out.step hox)
                  have hi := Lib.hid (HI.out.step hox)
                  have hr := Lib.hid (HR.out.step hox)
                  obtain ⟨x31_0, x31_1, x31_2⟩ := GB.c3 hg 1 rfl
                  clear hg hi hr
                  refine withs_plain rfl ?_
                  simp only [withs, List.getElem?_cons_zero, List.getElem?_cons_succ, Option.bind, Option.getD]
                  repeat (first | (with_reducible refine all_isV ?_) | (with_reducible refine all_isRD ?_; intro sx Ax kx cx hvx hwx))
                  go_simp
                  exact ⟨Only.refl _ _, isV.self _ _⟩
                refine owes2_cons (fun wx hox => ?_) ?_
                · skip
                  have hg := Lib.hid (HG.out.step hox)
                  have hi := Lib.hid (HI.out.step hox)
                  have hr := Lib.hid (HR.out.step hox)
                  have rd_u := (RL.rd (x := u) hr 1 rfl)
                  clear hg hi hr
                  refine withs_plain rfl ?_
                  simp only [withs, List.getElem?_cons_zero, List.getElem?_cons_succ, Option.bind, Option.getD]
                  repeat (first | (with_reducible refine all_isV ?_) | (with_reducible refine all_isRD ?_; intro sx Ax kx cx hvx hwx))
                  go_simp
                  (with_reducible exact grow_of (rsign_d su rd_u Hsu.out))
                refine owes2_cons (fun wx hox => ?_) ?_
                · skip
                  skip
                  refine withs_plain rfl ?_
                  simp only [withs, List.getElem?_cons_zero, List.getElem?_cons_succ, Option.bind, Option.getD]
                  repeat (first | (with_reducible refine all_isV ?_) | (with_reducible refine all_isRD ?_; intro sx Ax kx cx hvx hwx))
                  go_simp
                  exact ⟨Only.refl _ _, isV.self _ _⟩
                refine owes2_cons (fun wx hox => ?_) ?_
                · skip
                  skip
                  refine withs_plain rfl ?_
                  simp only [withs, List.getElem?_cons_zero, List.getElem?_cons_succ, Option.bind, Option.getD]
                  repeat (first | (with_reducible refine all_isV ?_) | (with_reducible refine all_isRD ?_; intro sx Ax kx cx hvx hwx))
                  go_simp
                  exact ⟨Only.refl _ _, isV.self _ _⟩
                refine owes2_cons (fun wx hox => ?_) ?_
                · refine withs_guardM true rfl rfl rfl ?_
                  simp only [withs, List.getElem?_cons_zero, List.getElem?_cons_succ, Option.bind, Option.getD]
                  repeat (first | (with_reducible refine all_isV ?_) | (with_reducible refine all_isRD ?_; intro sx Ax kx cx hvx hwx))
                  exact ⟨by kernel_rfl, isV.self _ _⟩
                refine owes2_cons (fun wx hox => ?_) ?_
                · refine withs_guardM true rfl rfl rfl ?_
                  simp only [withs, List.getElem?_cons_zero, List.getElem?_cons_succ, Option.bind, Option.getD]
                  repeat (first | (with_reducible refine all_isV ?_) | (with_reducible refine all_isRD ?_; intro sx Ax kx cx hvx hwx))
                  exact ⟨by kernel_rfl, isV.self _ _⟩
                refine owes2_cons (fun wx hox => ?_) ?_
                · refine withs_guardM true rfl rfl rfl ?_
                  simp only [withs, List.getElem?_cons_zero, List.getElem?_cons_succ, Option.bind, Option.getD]
                  repeat (first | (with_reducible refine all_isV ?_) | (with_reducible refine all_isRD ?_; intro sx Ax kx cx hvx hwx))
                  exact ⟨by kernel_rfl, isV.self _ _⟩
                refine owes2_cons (fun wx hox => ?_) ?_
                · refine withs_guardM true rfl rfl rfl ?_
                  simp only [withs, List.getElem?_cons_zero, List.getElem?_cons_succ, Option.bind, Option.getD]
                  repeat (first | (with_reducible refine all_isV ?_) | (with_reducible refine all_isRD ?_; intro sx Ax kx cx hvx hwx))
                  exact ⟨by kernel_rfl, isV.self _ _⟩
                refine owes2_cons (fun wx hox => ?_) ?_
                · refine withs_guardM true rfl rfl rfl ?_
                  simp only [withs, List.getElem?_cons_zero, List.getElem?_cons_succ, Option.bind, Option.getD]
                  repeat (first | (with_reducible refine all_isV ?_) | (with_reducible refine all_isRD ?_; intro sx Ax kx cx hvx hwx))
                  exact ⟨by kernel_rfl, isV.self _ _⟩
                refine owes2_cons (fun wx hox => ?_) ?_
                · refine withs_guardM true rfl rfl rfl ?_
                  simp only [withs, List.getElem?_cons_zero, List.getElem?_cons_succ, Option.bind, Option.getD]
                  repeat (first | (with_reducible refine all_isV ?_) | (with_reducible refine all_isRD ?_; intro sx Ax kx cx hvx hwx))
                  exact ⟨by kernel_rfl, isV.self _ _⟩
                refine owes2_cons (fun wx hox => ?_) ?_
                · skip
                  skip
                  refine withs_plain rfl ?_
                  simp only [withs, List.getElem?_cons_zero, List.getElem?_cons_succ, Option.bind, Option.getD]
                  repeat (first | (with_reducible refine all_isV ?_) | (with_reducible refine all_isRD ?_; intro sx Ax kx cx hvx hwx))
                  go_simp
                  exact ⟨Only.refl _ _, isV.self _ _⟩
                refine owes2_cons (fun wx hox => ?_) ?_
                · skip
                  skip
                  refine withs_plain rfl ?_
                  simp only [withs, List.getElem?_cons_zero, List.getElem?_cons_succ, Option.bind, Option.getD]
                  repeat (first | (with_reducible refine all_isV ?_) | (with_reducible refine all_isRD ?_; intro sx Ax kx cx hvx hwx))
                  go_simp
                  exact ⟨Only.refl _ _, isV.self _ _⟩
                refine owes2_cons (fun wx hox => ?_) ?_
                · skip
                  have hg := Lib.hid (HG.out.step hox)
                  have hi := Lib.hid (HI.out.step hox)
                  have hr := Lib.hid (HR.out.step hox)
                  obtain ⟨x35_0, x35_1, x35_2⟩ := GB.c3 hg 0 rfl
                  clear hg hi hr
                  refine withs_guard rfl rfl ?_
                  simp only [withs, List.getElem?_cons_zero, List.getElem?_cons_succ, Option.bind, Option.getD]
                  repeat (first | (with_reducible refine all_isV ?_) | (with_reducible refine all_isRD ?_; intro sx Ax kx cx hvx hwx))
                  refine ⟨by kernel_rfl, ?_⟩
                  go_simp
                  exact ⟨Only.refl _ _, isV.self _ _⟩
                refine owes2_cons (fun wx hox => ?_) ?_
                · skip
                  have hg := Lib.hid (HG.out.step hox)
                  have hi := Lib.hid (HI.out.step hox)
                  have hr := Lib.hid (HR.out.step hox)
                  have rd_v := (RL.rd (x := v) hr 0 rfl)
                  clear hg hi hr
                  refine withs_guard rfl rfl ?_
                  simp only [withs, List.getElem?_cons_zero, List.getElem?_cons_succ, Option.bind, Option.getD]
                  repeat (first | (with_reducible refine all_isV ?_) | (with_reducible refine all_isRD ?_; intro sx Ax kx cx hvx hwx))
                  refine ⟨by kernel_rfl, ?_⟩
                  go_simp
                  (with_reducible exact grow_of (rsign_d sv rd_v Hsv.out))
                refine owes2_cons (fun wx hox => ?_) ?_
                · skip
                  skip
                  refine withs_guard rfl rfl ?_
                  simp only [withs, List.getElem?_cons_zero, List.getElem?_cons_succ, Option.bind, Option.getD]
                  repeat (first | (with_reducible refine all_isV ?_) | (with_reducible refine all_isRD ?_; intro sx Ax kx cx hvx hwx))
                  refine ⟨by kernel_rfl, ?_⟩
                  go_simp
                  exact ⟨Only.refl _ _, isV.self _ _⟩
                refine owes2_cons (fun wx hox => ?_) ?_
                · skip
                  skip
                  refine withs_plain rfl ?_
                  simp only [withs, List.getElem?_cons_zero, List.getElem?_cons_succ, Option.bind, Option.getD]
                  repeat (first | (with_reducible refine all_isV ?_) | (with_reducible refine all_isRD ?_; intro sx Ax kx cx hvx hwx))
                  go_simp
                  exact ⟨Only.refl _ _, isV.self _ _⟩
                refine owes2_cons (fun wx hox => ?_) ?_
                · skip
                  skip
                  refine withs_plain rfl ?_
                  simp only [withs, List.getElem?_cons_zero, List.getElem?_cons_succ, Option.bind, Option.getD]
                  repeat (first | (with_reducible refine all_isV ?_) | (with_reducible refine all_isRD ?_; intro sx Ax kx cx hvx hwx))
                  go_simp
                  exact ⟨Only.refl _ _, isV.self _ _⟩
                refine owes2_cons (fun wx hox => ?_) ?_
                · skip
                  have hg := Lib.hid (HG.out.step hox)
                  have hi := Lib.hid (HI.out.step hox)
                  have hr := Lib.hid (HR.out.step hox)
                  obtain ⟨x36_0, x36_1, x36_2⟩ := GB.c3 hg 0 rfl
                  clear hg hi hr
                  refine withs_guard rfl rfl ?_
                  simp only [withs, List.getElem?_cons_zero, List.getElem?_cons_succ, Option.bind, Option.getD]
                  repeat (first | (with_reducible refine all_isV ?_) | (with_reducible refine all_isRD ?_; intro sx Ax kx cx hvx hwx))
                  refine ⟨by kernel_rfl, ?_⟩
                  go_simp
                  exact ⟨Only.refl _ _, isV.self _ _⟩
                refine owes2_cons (fun wx hox => ?_) ?_
                · skip
                  have hg := Lib.hid (HG.out.step hox)
                  have hi := Lib.hid (HI.out.step hox)
                  have hr := Lib.hid (HR.out.step hox)
                  obtain ⟨x37_0, x37_1, x37_2⟩ := GB.c3 hg 0 rfl
                  clear hg hi hr
                  refine withs_guard rfl rfl ?_
                  simp only [withs, List.getElem?_cons_zero, List.getElem?_cons_succ, Option.bind, Option.getD]
                  repeat (first | (with_reducible refine all_isV ?_) | (with_reducible refine all_isRD ?_; intro sx Ax kx cx hvx hwx))
                  refine ⟨by kernel_rfl, ?_⟩
                  go_simp
                  exact ⟨Only.refl _ _, isV.self _ _⟩
                refine owes2_cons (fun wx hox => ?_) ?_
                · skip
                  have hg := Lib.hid (HG.out.step hox)
                  have hi := Lib.hid (HI.out.step hox)
                  have hr := Lib.hid (HR.out.step hox)
                  have rd_v := (RL.rd (x := v) hr 0 rfl)
                  clear hg hi hr
                  refine withs_guard rfl rfl ?_
                  simp only [withs, List.getElem?_cons_zero, List.getElem?_cons_succ, Option.bind, Option.getD]
                  repeat (first | (with_reducible refine all_isV ?_) | (with_reducible refine all_isRD ?_; intro sx Ax kx cx hvx hwx))
                  refine ⟨by kernel_rfl, ?_⟩
                  go_simp
                  (with_reducible exact grow_rd (rmulV_d mv Hmv.out rd_v rd_v Bv Bv (by omega)))
                refine owes2_cons (fun wx hox => ?_) ?_
                · skip
                  have hg := Lib.hid (HG.out.step hox)
                  have hi := Lib.hid (HI.out.step hox)
                  have hr := Lib.hid (HR.out.step hox)
                  obtain ⟨x38_0, x38_1, x38_2⟩ := GB.c3 hg 8 rfl
                  clear hg hi hr
                  refine withs_guard rfl rfl ?_
                  simp only [withs, List.getElem?_cons_zero, List.getElem?_cons_succ, Option.bind, Option.getD]
                  repeat (first | (with_reducible refine all_isV ?_) | (with_reducible refine all_isRD ?_; intro sx Ax kx cx hvx hwx))
                  refine ⟨by kernel_rfl, ?_⟩
                  go_simp
                  exact ⟨Only.refl _ _, isV.self _ _⟩
                refine owes2_cons (fun wx hox => ?_) ?_
                · skip
                  have hg := Lib.hid (HG.out.step hox)
                  have hi := Lib.hid (HI.out.step hox)
                  have hr := Lib.hid (HR.out.step hox)
                  have rd_p := (RL.rd (x := p) hr 3 rfl)
                  clear hg hi hr
                  refine withs_guard rfl rfl ?_
                  simp only [withs, List.getElem?_cons_zero, List.getElem?_cons_succ, Option.bind, Option.getD]
                  repeat (first | (with_reducible refine all_isV ?_) | (with_reducible refine all_isRD ?_; intro sx Ax kx cx hvx hwx))
                  refine ⟨by kernel_rfl, ?_⟩
                  go_simp
                  (with_reducible exact grow_of (rcmp_d (x := mv) (y := p) cv (RD.of (by assumption) (by assumption)) rd_p Cmv Bmv Bp2 (by omega) Hcv.out))
                refine owes2_cons (fun wx hox => ?_) ?_
                · skip
                  skip
                  refine withs_guard rfl rfl ?_
                  simp only [withs, List.getElem?_cons_zero, List.getElem?_cons_succ, Option.bind, Option.getD]
                  repeat (first | (with_reducible refine all_isV ?_) | (with_reducible refine all_isRD ?_; intro sx Ax kx cx hvx hwx))
                  refine ⟨by kernel_rfl, ?_⟩
                  go_simp
                  exact ⟨Only.refl _ _, isV.self _ _⟩
                refine owes2_cons (fun wx hox => ?_) ?_
                · skip
                  skip
                  refine withs_plain rfl ?_
                  simp only [withs, List.getElem?_cons_zero, List.getElem?_cons_succ, Option.bind, Option.getD]
                  repeat (first | (with_reducible refine all_isV ?_) | (with_reducible refine all_isRD ?_; intro sx Ax kx cx hvx hwx))
                  go_simp
                  exact ⟨Only.refl _ _, isV.self _ _⟩
                refine owes2_cons (fun wx hox => ?_) ?_
                · skip
                  skip
                  refine withs_plain rfl ?_
                  simp only [withs, List.getElem?_cons_zero, List.getElem?_cons_succ, Option.bind, Option.getD]
                  repeat (first | (with_reducible refine all_isV ?_) | (with_reducible refine all_isRD ?_; intro sx Ax kx cx hvx hwx))
                  go_simp
                  exact ⟨Only.refl _ _, isV.self _ _⟩
                exact owes2_nil
              case hl =>
                repeat (refine List.forall_mem_cons.2 ⟨?_, ?_⟩; first | exact isV.lasts _ | exact isRD.lasts _)
                exact fun _ h => (by cases h)
              intro wx hox
              refine withs_of (by simp only [List.length, List.range, List.range.loop]; exact rfl) ?_
              simp only [withs, List.getElem?_cons_zero, List.getElem?_cons_succ, Option.bind, Option.getD]
              repeat (first | (with_reducible refine all_isV ?_) | (with_reducible refine all_isRD ?_; intro sx Ax kx cx hvx hwx))
              go_simp
              as_aux_lemma =>
                replace HG := Lib.hid (HG.out.step hox)
                replace HI := Lib.hid (HI.out.step hox)
                replace HR := Lib.hid (HR.out.step hox)
                clear hox
                go_wp2_with fail
                go_ret
                exact ⟨rfl, HG.out.only⟩
            · skip
              apply wp_region_typed2 (by kernel_rfl) [isV _, isV _, isV _, isV _, isV _, isV _, isRD mu, isV _, isV _, isV _, isV _, isV _, isV _, isV _, isV _, isV _, isV _, isV _, isV _, isRD mv, isV _, isV _, isV _, isV _, isV _] [[], [0], [1], [2], [3], [3], [3, 4, 5], [3], [3, 6, 7], [3, 8], [3, 9], [10], [11], [11, 12], [11, 13], [11, 14], [15], [16], [16], [16, 17, 18], [16], [16, 19, 20], [16, 21], [16, 22], [23]] (by kernel_rfl) (by kernel_rfl)
              case ho =>
                refine owes2_cons (fun wx hox => ?_) ?_
                · skip
                  have hg := Lib.hid (HG.out.step hox)
                  have hi := Lib.hid (HI.out.step hox)
                  have hr := Lib.hid (HR.out.step hox)
                  obtain ⟨x31_0, x31_1, x31_2⟩ := GB.c3 hg 1 rfl
                  clear hg hi hr
                  refine withs_plain rfl ?_
                  simp only [withs, List.getElem?_cons_zero, List.getElem?_cons_succ, Option.bind, Option.getD]
                  repeat (first | (with_reducible refine all_isV ?_) | (with_reducible refine all_isRD ?_; intro sx Ax kx cx hvx hwx))
                  go_simp
                  exact ⟨Only.refl _ _, isV.self _ _⟩
                refine owes2_cons (fun wx hox => ?_) ?_
                · skip
                  have hg := Lib.hid (HG.out.step hox)
                  have hi := Lib.hid (HI.out.step hox)
                  have hr := Lib.hid (HR.out.step hox)
                  have rd_u := (RL.rd (x := u) hr 1 rfl)
                  clear hg hi hr
                  refine withs_plain rfl ?_
                  simp only [withs, List.getElem?_cons_zero, List.getElem?_cons_succ, Option.bind, Option.getD]
                  repeat (first | (with_reducible refine all_isV ?_) | (with_reducible refine all_isRD ?_; intro sx Ax kx cx hvx hwx))
                  go_simp
                  (with_reducible exact grow_of (rsign_d su rd_u Hsu.out))
                refine owes2_cons (fun wx hox => ?_) ?_
                · skip
                  skip
                  refine withs_plain rfl ?_
                  simp only [withs, List.getElem?_cons_zero, List.getElem?_cons_succ, Option.bind, Option.getD]
                  repeat (first | (with_reducible refine all_isV ?_) | (with_reducible refine all_isRD ?_; intro sx Ax kx cx hvx hwx))
                  go_simp
                  exact ⟨Only.refl _ _, isV.self _ _⟩
                refine owes2_cons (fun wx hox => ?_) ?_
                · skip
                  skip
                  refine withs_plain rfl ?_
                  simp only [withs, List.getElem?_cons_zero, List.getElem?_cons_succ, Option.bind, Option.getD]
                  repeat (first | (with_reducible refine all_isV ?_) | (with_reducible refine all_isRD ?_; intro sx Ax kx cx hvx hwx))
                  go_simp
                  exact ⟨Only.refl _ _, isV.self _ _⟩
                refine owes2_cons (fun wx hox => ?_) ?_
                · skip
                  have hg := Lib.hid (HG.out.step hox)
                  have hi := Lib.hid (HI.out.step hox)
                  have hr := Lib.hid (HR.out.step hox)
                  obtain ⟨x32_0, x32_1, x32_2⟩ := GB.c3 hg 1 rfl
                  clear hg hi hr
                  refine withs_guard rfl rfl ?_
                  simp only [withs, List.getElem?_cons_zero, List.getElem?_cons_succ, Option.bind, Option.getD]
                  repeat (first | (with_reducible refine all_isV ?_) | (with_reducible refine all_isRD ?_; intro sx Ax kx cx hvx hwx))
                  refine ⟨by kernel_rfl, ?_⟩
                  go_simp
                  exact ⟨Only.refl _ _, isV.self _ _⟩
                refine owes2_cons (fun wx hox => ?_) ?_
                · skip
                  have hg := Lib.hid (HG.out.step hox)
                  have hi := Lib.hid (HI.out.step hox)
                  have hr := Lib.hid (HR.out.step hox)
                  obtain ⟨x33_0, x33_1, x33_2⟩ := GB.c3 hg 1 rfl
                  clear hg hi hr
                  refine withs_guard rfl rfl ?_
                  simp only [withs, List.getElem?_cons_zero, List.getElem?_cons_succ, Option.bind, Option.getD]
                  repeat (first | (with_reducible refine all_isV ?_) | (with_reducible refine all_isRD ?_; intro sx Ax kx cx hvx hwx))
                  refine ⟨by kernel_rfl, ?_⟩
                  go_simp
                  exact ⟨Only.refl _ _, isV.self _ _⟩
                refine owes2_cons (fun wx hox => ?_) ?_
                · skip
                  have hg := Lib.hid (HG.out.step hox)
                  have hi := Lib.hid (HI.out.step hox)
                  have hr := Lib.hid (HR.out.step hox)
                  have rd_u := (RL.rd (x := u) hr 1 rfl)
                  clear hg hi hr
                  refine withs_guard rfl rfl ?_
                  simp only [withs, List.getElem?_cons_zero, List.getElem?_cons_succ, Option.bind, Option.getD]
                  repeat (first | (with_reducible refine all_isV ?_) | (with_reducible refine all_isRD ?_; intro sx Ax kx cx hvx hwx))
                  refine ⟨by kernel_rfl, ?_⟩
                  go_simp
                  (with_reducible exact grow_rd (rmulV_d mu Hmu.out rd_u rd_u Bu Bu (by omega)))
                refine owes2_cons (fun wx hox => ?_) ?_
                · skip
                  have hg := Lib.hid (HG.out.step hox)
                  have hi := Lib.hid (HI.out.step hox)
                  have hr := Lib.hid (HR.out.step hox)
                  obtain ⟨x34_0, x34_1, x34_2⟩ := GB.c3 hg 8 rfl
                  clear hg hi hr
                  refine withs_guard rfl rfl ?_
                  simp only [withs, List.getElem?_cons_zero, List.getElem?_cons_succ, Option.bind, Option.getD]
                  repeat (first | (with_reducible refine all_isV ?_) | (with_reducible refine all_isRD ?_; intro sx Ax kx cx hvx hwx))
                  refine ⟨by kernel_rfl, ?_⟩
                  go_simp
                  exact ⟨Only.refl _ _, isV.self _ _⟩
                refine owes2_cons (fun wx hox => ?_) ?_
                · skip
                  have hg := Lib.hid (HG.out.step hox)
                  have hi := Lib.hid (HI.out.step hox)
                  have hr := Lib.hid (HR.out.step hox)
                  have rd_p := (RL.rd (x := p) hr 3 rfl)
                  clear hg hi hr
                  refine withs_guard rfl rfl ?_
                  simp only [withs, List.getElem?_cons_zero, List.getElem?_cons_succ, Option.bind, Option.getD]
                  repeat (first | (with_reducible refine all_isV ?_) | (with_reducible refine all_isRD ?_; intro sx Ax kx cx hvx hwx))
                  refine ⟨by kernel_rfl, ?_⟩
                  go_simp
                  (with_reducible exact grow_of (rcmp_d (x := mu) (y := p) cu (RD.of (by assumption) (by assumption)) rd_p Cmu Bmu Bp2 (by omega) Hcu.out))
                refine owes2_cons (fun wx hox => ?_) ?_
                · skip
                  skip
                  refine withs_guard rfl rfl ?_
                  simp only [withs, List.getElem?_cons_zero, List.getElem?_cons_succ, Option.bind, Option.getD]
                  repeat (first | (with_reducible refine all_isV ?_) | (with_reducible refine all_isRD ?_; intro sx Ax kx cx hvx hwx))
                  refine ⟨by kernel_rfl, ?_⟩
                  go_simp
                  exact ⟨Only.refl _ _, isV.self _ _⟩
                refine owes2_cons (fun wx hox => ?_) ?_
                · skip
                  skip
                  refine withs_plain rfl ?_
                  simp only [withs, List.getElem?_cons_zero, List.getElem?_cons_succ, Option.bind, Option.getD]
                  repeat (first | (with_reducible refine all_isV ?_) | (with_reducible refine all_isRD ?_; intro sx Ax kx cx hvx hwx))
                  go_simp
                  exact ⟨Only.refl _ _, isV.self _ _⟩
                refine owes2_cons (fun wx hox => ?_) ?_
                · skip
                  skip
                  refine withs_plain rfl ?_
                  simp only [withs, List.getElem?_cons_zero, List.getElem?_cons_succ, Option.bind, Option.getD]
                  repeat (first | (with_reducible refine all_isV ?_) | (with_reducible refine all_isRD ?_; intro sx Ax kx cx hvx hwx))
                  go_simp
                  exact ⟨Only.refl _ _, isV.self _ _⟩
                refine owes2_cons (fun wx hox => ?_) ?_
                · skip
                  have hg := Lib.hid (HG.out.step hox)
                  have hi := Lib.hid (HI.out.step hox)
                  have hr := Lib.hid (HR.out.step hox)
                  obtain ⟨x35_0, x35_1, x35_2⟩ := GB.c3 hg 0 rfl
                  clear hg hi hr
                  refine withs_guard rfl rfl ?_
                  simp only [withs, List.getElem?_cons_zero, List.getElem?_cons_succ, Option.bind, Option.getD]
                  repeat (first | (with_reducible refine all_isV ?_) | (with_reducible refine all_isRD ?_; intro sx Ax kx cx hvx hwx))
                  refine ⟨by kernel_rfl, ?_⟩
                  go_simp
                  exact ⟨Only.refl _ _, isV.self _ _⟩
                refine owes2_cons (fun wx hox => ?_) ?_
                · skip
                  have hg := Lib.hid (HG.out.step hox)
                  have hi := Lib.hid (HI.out.step hox)
                  have hr := Lib.hid (HR.out.step hox)
                  have rd_v := (RL.rd (x := v) hr 0 rfl)
                  clear hg hi hr
                  refine withs_guard rfl rfl ?_
                  simp only [withs, List.getElem?_cons_zero, List.getElem?_cons_succ, Option.bind, Option.getD]
                  repeat (first | (with_reducible refine all_isV ?_) | (with_reducible refine all_isRD ?_; intro sx Ax kx cx hvx hwx))
                  refine ⟨by kernel_rfl, ?_⟩
                  go_simp
                  (with_reducible exact grow_of (rsign_d sv rd_v Hsv.out))
                refine owes2_cons (fun wx hox => ?_) ?_
                · skip
                  skip
                  refine withs_guard rfl rfl ?_
                  simp only [withs, List.getElem?_cons_zero, List.getElem?_cons_succ, Option.bind, Option.getD]
                  repeat (first | (with_reducible refine all_isV ?_) | (with_reducible refine all_isRD ?_; intro sx Ax kx cx hvx hwx))
                  refine ⟨by kernel_rfl, ?_⟩
                  go_simp
                  exact ⟨Only.refl _ _, isV.self _ _⟩
                refine owes2_cons (fun wx hox => ?_) ?_
                · skip
                  skip
                  refine withs_plain rfl ?_
                  simp only [withs, List.getElem?_cons_zero, List.getElem?_cons_succ, Option.bind, Option.getD]
                  repeat (first | (with_reducible refine all_isV ?_) | (with_reducible refine all_isRD ?_; intro sx Ax kx cx hvx hwx))
                  go_simp
                  exact ⟨Only.refl _ _, isV.self _ _⟩
                refine owes2_cons (fun wx hox => ?_) ?_
                · skip
                  skip
                  refine withs_plain rfl ?_
                  simp only [withs, List.getElem?_cons_zero, List.getElem?_cons_succ, Option.bind, Option.getD]
                  repeat (first | (with_reducible refine all_isV ?_) | (with_reducible refine all_isRD ?_; intro sx Ax kx cx hvx hwx))
                  go_simp
                  exact ⟨Only.refl _ _, isV.self _ _⟩
                refine owes2_cons (fun wx hox => ?_) ?_
                · skip
                  have hg := Lib.hid (HG.out.step hox)
                  have hi := Lib.hid (HI.out.step hox)
                  have hr := Lib.hid (HR.out.step hox)
                  obtain ⟨x36_0, x36_1, x36_2⟩ := GB.c3 hg 0 rfl
                  clear hg hi hr
                  refine withs_guard rfl rfl ?_
                  simp only [withs, List.getElem?_cons_zero, List.getElem?_cons_succ, Option.bind, Option.getD]
                  repeat (first | (with_reducible refine all_isV ?_) | (with_reducible refine all_isRD ?_; intro sx Ax kx cx hvx hwx))
                  refine ⟨by kernel_rfl, ?_⟩
                  go_simp
                  exact ⟨Only.refl _ _, isV.self _ _⟩
                refine owes2_cons (fun wx hox => ?_) ?_
                · skip
                  have hg := Lib.hid (HG.out.step hox)
                  have hi := Lib.hid (HI.out.step hox)
                  have hr := Lib.hid (HR.out.step hox)
                  obtain ⟨x37_0, x37_1, x37_2⟩ := GB.c3 hg 0 rfl
                  clear hg hi hr
                  refine withs_guard rfl rfl ?_
                  simp only [withs, List.getElem?_cons_zero, List.getElem?_cons_succ, Option.bind, Option.getD]
                  repeat (first | (with_reducible refine all_isV ?_) | (with_reducible refine all_isRD ?_; intro sx Ax kx cx hvx hwx))
                  refine ⟨by kernel_rfl, ?_⟩
                  go_simp
                  exact ⟨Only.refl _ _, isV.self _ _⟩
                refine owes2_cons (fun wx hox => ?_) ?_
                · skip
                  have hg := Lib.hid (HG.out.step hox)
                  have hi := Lib.hid (HI.out.step hox)
                  have hr := Lib.hid (HR.out.step hox)
                  have rd_v := (RL.rd (x := v) hr 0 rfl)
                  clear hg hi hr
                  refine withs_guard rfl rfl ?_
                  simp only [withs, List.getElem?_cons_zero, List.getElem?_cons_succ, Option.bind, Option.getD]
                  repeat (first | (with_reducible refine all_isV ?_) | (with_reducible refine all_isRD ?_; intro sx Ax kx cx hvx hwx))
                  refine ⟨by kernel_rfl, ?_⟩
                  go_simp
                  (with_reducible exact grow_rd (rmulV_d mv Hmv.out rd_v rd_v Bv Bv (by omega)))
                refine owes2_cons (fun wx hox => ?_) ?_
                · skip
                  have hg := Lib.hid (HG.out.step hox)
                  have hi := Lib.hid (HI.out.step hox)
                  have hr := Lib.hid (HR.out.step hox)
                  obtain ⟨x38_0, x38_1, x38_2⟩ := GB.c3 hg 8 rfl
                  clear hg hi hr
                  refine withs_guard rfl rfl ?_
                  simp only [withs, List.getElem?_cons_zero, List.getElem?_cons_succ, Option.bind, Option.getD]
                  repeat (first | (with_reducible refine all_isV ?_) | (with_reducible refine all_isRD ?_; intro sx Ax kx cx hvx hwx))
                  refine ⟨by kernel_rfl, ?_⟩
                  go_simp
                  exact ⟨Only.refl _ _, isV.self _ _⟩
                refine owes2_cons (fun wx hox => ?_) ?_
                · skip
                  have hg := Lib.hid (HG.out.step hox)
                  have hi := Lib.hid (HI.out.step hox)
                  have hr := Lib.hid (HR.out.step hox)
                  have rd_p := (RL.rd (x := p) hr 3 rfl)
                  clear hg hi hr
                  refine withs_guard rfl rfl ?_
                  simp only [withs, List.getElem?_cons_zero, List.getElem?_cons_succ, Option.bind, Option.getD]
                  repeat (first | (with_reducible refine all_isV ?_) | (with_reducible refine all_isRD ?_; intro sx Ax kx cx hvx hwx))
                  refine ⟨by kernel_rfl, ?_⟩
                  go_simp
                  (with_reducible exact grow_of (rcmp_d (x := mv) (y := p) cv (RD.of (by assumption) (by assumption)) rd_p Cmv Bmv Bp2 (by omega) Hcv.out))
                refine owes2_cons (fun wx hox => ?_) ?_
                · skip
                  skip
                  refine withs_guard rfl rfl ?_
                  simp only [withs, List.getElem?_cons_zero, List.getElem?_cons_succ, Option.bind, Option.getD]
                  repeat (first | (with_reducible refine all_isV ?_) | (with_reducible refine all_isRD ?_; intro sx Ax kx cx hvx hwx))
                  refine ⟨by kernel_rfl, ?_⟩
                  go_simp
                  exact ⟨Only.refl _ _, isV.self _ _⟩
                refine owes2_cons (fun wx hox => ?_) ?_
                · skip
                  skip
                  refine withs_plain rfl ?_
                  simp only [withs, List.getElem?_cons_zero, List.getElem?_cons_succ, Option.bind, Option.getD]
                  repeat (first | (with_reducible refine all_isV ?_) | (with_reducible refine all_isRD ?_; intro sx Ax kx cx hvx hwx))
                  go_simp
                  exact ⟨Only.refl _ _, isV.self _ _⟩
                refine owes2_cons (fun wx hox => ?_) ?_
                · skip
                  skip
                  refine withs_plain rfl ?_
                  simp only [withs, List.getElem?_cons_zero, List.getElem?_cons_succ, Option.bind, Option.getD]
                  repeat (first | (with_reducible refine all_isV ?_) | (with_reducible refine all_isRD ?_; intro sx Ax kx cx hvx hwx))
                  go_simp
                  exact ⟨Only.refl _ _, isV.self _ _⟩
                exact owes2_nil
              case hl =>
                repeat (refine List.forall_mem_cons.2 ⟨?_, ?_⟩; first | exact isV.lasts _ | exact isRD.lasts _)
                exact fun _ h => (by cases h)
              intro wx hox
              refine withs_of (by simp only [List.length, List.range, List.range.loop]; exact rfl) ?_
              simp only [withs, List.getElem?_cons_zero, List.getElem?_cons_succ, Option.bind, Option.getD]
              repeat (first | (with_reducible refine all_isV ?_) | (with_reducible refine all_isRD ?_; intro sx Ax kx cx hvx hwx))
              go_simp
              as_aux_lemma =>
                replace HG := Lib.hid (HG.out.step hox)
                replace HI := Lib.hid (HI.out.step hox)
                replace HR := Lib.hid (HR.out.step hox)
                clear hox
                go_wp2_with fail
                go_ret
                exact ⟨rfl, HG.out.only⟩

end Fl
end Go.Proofs.YtkibkmdgibemkaaDoor
