/-
  NearRoots: the walk.
-/
import Derived.Test.YtigpnopeacicpaaGreatDoorTrJ34
import Derived.Test.YtigpnopeacicpaaGreatDoorTrJ19
import Derived.Test.YtigpnopeacicpaaGreatDoorTrJ17
namespace Go.Proofs.YtigpnopeacicpaaGreatDoor
set_option linter.unusedSimpArgs false
open Go.RowKit
attribute [local go_sem] run_store_float

set_option maxHeartbeats 1600000 in
theorem nroots_out (n p : Int) (w : World) (hT : Hid (Tab6 w)) (h : n < 0 ∨ (¬ n < 0 ∧ 1000000 < n) ∨ (¬ n < 0 ∧ ¬ 1000000 < n ∧ p < 1) ∨ (¬ n < 0 ∧ ¬ 1000000 < n ∧ ¬ p < 1 ∧ 400 < p)) :
    Calls Tryz.prog 4 #[.int .i64 n, .int .i64 p] w fun e w' => e = .returned (.bool true) ∧ Only [] w w' := by
  rcases h with h1 | ⟨h1, h2⟩ | ⟨h1, h2, h3⟩ | ⟨h1, h2, h3, h4⟩
  all_goals
    go_enter Tryz.func4, Tryz.ntmps4
    go_wp2_with fail
    (with_reducible refine (alive13_any _ hT).mono ?_)
    rintro e w1 ⟨rfl, ho⟩
    have HO := Lib.hid ho
    clear ho
    go_wp2_with fail
    go_ret
    exact ⟨rfl, HO.out⟩
set_option maxHeartbeats 16000000 in
set_option maxRecDepth 100000 in
theorem nroots_in (n p : Int) (f : Nat) (x dn up ll hh : Dy) (c1 c2 : Int) (w : World) (hn0 : ¬ n < 0) (hn1 : ¬ 1000000 < n) (hp0 : ¬ p < 1) (hp1 : ¬ 400 < p) (hn2 : decide (1048576 < n) = false)
    (Hf : Hid (floatOfInt .f64 n = f)) (HLf : Hid (LeafIs f n)) (Hx : Hid (nrm n 0 = x)) (HxS : Hid (nrm x.z x.e = x)) (Cx : Hid (Can x)) (Bx : Hid (Bnd 8000 x)) (Blo : Hid (Bnd 8000 dn)) (Bhi : Hid (Bnd 8000 up)) (Hll : Hid (dMul dn dn = ll)) (Hhh : Hid (dMul up up = hh)) (Bll : Hid (Bnd 32000 ll)) (Bhh : Hid (Bnd 32000 hh)) (Hc1 : Hid (cmpQ ll.q x.q = c1)) (Hc2 : Hid (cmpQ hh.q x.q = c2)) (hc1 : c1 ≤ 0) (hc2 : 0 ≤ c2)
    (HE1 : Hid (∀ (d : Nat) (v : Value) (m : Nat) (W : World), DagIs W d v (some m) (nsR f) → Tab6 W → Calls Tryz.prog 74 #[.pointer (some ⟨d, 0, none⟩), .int .i64 1, .int .i64 p, .bool false] W (EvYes 1 dn up W)))
    (HE3 : Hid (∀ (d : Nat) (v : Value) (m : Nat) (W : World), DagIs W d v (some m) (nsS f) → Tab6 W → Calls Tryz.prog 74 #[.pointer (some ⟨d, 0, none⟩), .int .i64 3, .int .i64 64, .bool false] W (EvYes 3 x x W)))
    (HHas : Hid ((decide (x.q ≤ x.q) && decide (x.q ≤ x.q)) = true)) (hT : Hid (Tab6 w)) :
    Calls Tryz.prog 4 #[.int .i64 n, .int .i64 p] w fun e w' => e = .returned (.bool true) ∧ Only [] w w' := by
  have Hn : Hid (0 ≤ n ∧ n ≤ 1000000) := by show _ ∧ _; omega
  go_enter Tryz.func4, Tryz.ntmps4
  go_wp2_with fail
  (with_reducible refine (alive13_any _ hT).mono ?_)
  rintro e w1 ⟨rfl, ho1⟩
  have HO1 := Lib.hid ho1
  clear ho1
  go_wp2_with fail
  (with_reducible refine (new_any true _).mono ?_)
  rintro e w2 ⟨r1, rfl, hd1, hr1, hm1, ho2⟩
  obtain ⟨m, rfl⟩ : ∃ m, r1 = some m := by
    cases r1 with
    | none => simp at hr1
    | some m => exact ⟨m, rfl⟩
  have HNu := Lib.hid (NUd.nil hd1)
  have HB := Lib.hid (NB.start (NOwn.start hd1 (hm1 m rfl) HO1.out ho2).own)
  clear hd1 hr1 hm1 ho2 HO1
  generalize w1.heap.size = d at *
  go_wp2_with fail
  (refine (dint_nu d _ m [] n f _ Hf (Lib.hid HLf.out.lt) (by omega) (by omega) (Lib.hid HB.out.own.is) HNu (Lib.hid (by simp)) (Lib.hid (takes_leaf 0 HLf.out.fin)) (Lib.hid (by simp))).mono ?_)
  rintro e w3 ⟨hpp, hnu⟩
  obtain ⟨v3, rfl, hb3⟩ := HB.out.put (qS_0 HLf.out.fin) hpp
  clear HB HNu hpp
  have HB := Lib.hid hb3
  have HNu := Lib.hid hnu
  clear hb3 hnu
  go_wp2_with fail
  (refine (droot_nu d _ m ((nsS f).take 1) 0 _ HB.out.own.is HNu (Lib.hid (by simp [nsS])) (Lib.hid (by show takesB 1 5 0 0 0 = true; decide)) (Lib.hid (by simp [nsS]))).mono ?_)
  rintro e w4 ⟨hpp, hnu⟩
  obtain ⟨v4, rfl, hb4⟩ := HB.out.put qS_1 hpp
  clear HB HNu hpp
  have HB := Lib.hid hb4
  have HNu := Lib.hid hnu
  clear hb4 hnu
  go_wp2_with fail
  (with_reducible refine (nof_yes d 1 p _ dn up (Lib.hid (by unfold Small; omega)) (Lib.hid fun W ho => HE1.out d v4 m W (HB.out.own.is.only ho (by simp)) (hT.out.keep (HB.out.own.only.nil_trans ho)))).mono ?_)
  rintro e w5 ⟨s5, A5, k5, c5, s6, A6, k6, c6, rfl, -, hv5, -, hv6, ho⟩
  have hn_ := HNu.out.only HB.out.own.is ho
  have hb_ := ((HB.out.step ho).num (Lib.hid hv6) hn_).num (Lib.hid hv5) hn_
  have hn2_ := hn_.only hb_.own.is ((Only.refl [] w5).alloc (.cells #[.bool s5, .slice A5 k5 c5, .int .i64 dn.e, .bool s6, .slice A6 k6 c6, .int .i64 up.e] 34))
  have hb2_ := hb_.new 34 [.bool s5, .slice A5 k5 c5, .int .i64 dn.e, .bool s6, .slice A6 k6 c6, .int .i64 up.e] (noLimb6 _ _ _ _ _ _ _ _ _ _)
  clear HB HNu hb_ hn_ hv5 hv6 ho
  have HB := Lib.hid hb2_
  have HNu := Lib.hid hn2_
  clear hb2_ hn2_
  go_upto_region 8 with fail
  generalize w5.heap.size = g_b at *
  generalize w5.alloc _ = w6 at *
  go_wp2_with fail
  (with_reducible refine (ofV_d n x _ Hx.out (Lib.hid (by have := Hn.out; omega)) (Lib.hid (hT.out.keep HB.out.own.only))).mono ?_)
  rintro e w7 ⟨s7, A7, k7, c7, rfl, -, -, hv7, ho⟩
  have hn_ := HNu.out.only HB.out.own.is ho
  have hb_ := (HB.out.step ho).num (Lib.hid hv7) hn_
  have hb2_ := hb_.new 32 [.bool s7, .slice A7 k7 c7, .int .i64 x.e] (noLimb3 _ _ _ _ _)
  clear HB HNu hb_ hn_ hv7 ho
  have HB := Lib.hid hb2_
  clear hb2_
  go_upto_region 9 with fail
  generalize w7.heap.size = g_x at *
  generalize w7.alloc _ = w8 at *
  go_wp2_with fail
  (with_reducible refine (dintr_any d _ (some m) (nsR f) n f _ Hf (Lib.hid HLf.out.lt) (by omega) (by omega) (Lib.hid HB.out.own.is) (Lib.hid (by simp [nsR]))).mono ?_)
  intro e w9 hpp
  obtain ⟨v9, rfl, hb9⟩ := HB.out.put (qS_2 HLf.out.fin) hpp
  clear HB hpp
  have HB := Lib.hid hb9
  clear hb9
  go_wp2_with fail
  (with_reducible refine (dintr_any d _ (some m) (nsR f) n f _ Hf (Lib.hid HLf.out.lt) (by omega) (by omega) (Lib.hid HB.out.own.is) (Lib.hid (by simp [nsR]))).mono ?_)
  intro e w10 hpp
  obtain ⟨v10, rfl, hb10⟩ := HB.out.put (qS_2 HLf.out.fin) hpp
  clear HB hpp
  have HB := Lib.hid hb10
  clear hb10
  go_wp2_with fail
  have hblk := Blk.new w10 3 [.int .i64 0, .int .i64 0]
  have HB11 := Lib.hid (HB.out.step ((Only.refl [] w10).alloc (.cells #[.int .i64 0, .int .i64 0] 3)))
  have hx1 : Hid (∀ j, j < [(0 : Int)].length → (w10.alloc (.cells #[.int .i64 0, .int .i64 0] 3)).cell? ⟨w10.heap.size, 0 + 1 + j, none⟩ = some (.int .i64 ([(0 : Int)][j]?.getD 0))) := fun j hj => by
    have e : j = 0 := by
      have : j < 1 := hj
      omega
    subst e
    exact hblk.cell 1
  refine (dmul_any d _ (some m) (nsR f) w10.heap.size 0 2 0 [0] _ HB11.out.own.is (Lib.hid (by simp [nsR])) (fun h => absurd (HB.out.own.is.lt _ h) (by omega)) (hblk.cell 0) hx1 (by simp) (by decide)).mono ?_
  intro e w12 hpp
  obtain ⟨v12, rfl, hb12⟩ := HB11.out.fold qS_3 hpp
  clear HB HB11 hpp hblk hx1
  have HB := Lib.hid hb12
  clear hb12
  go_wp2_with fail
  (with_reducible refine (droot_any d _ (some m) ((nsS f).take 3) 2 _ HB.out.own.is (Lib.hid (by simp [nsS]))).mono ?_)
  intro e w13 hpp
  obtain ⟨v13, rfl, hb13⟩ := HB.out.put qS_4 hpp
  clear HB hpp
  have HB := Lib.hid hb13
  clear hb13
  go_wp2_with fail
  (with_reducible refine (nof_yes d 3 64 _ x x (Lib.hid (by unfold Small; omega)) (Lib.hid fun W ho => HE3.out d v13 m W (HB.out.own.is.only ho (by simp)) (hT.out.keep (HB.out.own.only.nil_trans ho)))).mono ?_)
  rintro e w14 ⟨s8, A8, k8, c8, s9, A9, k9, c9, rfl, -, hv8, -, hv9, ho⟩
  have hg_ := (HB.out.gb.step ho).new 34 [.bool s8, .slice A8 k8 c8, .int .i64 x.e, .bool s9, .slice A9 k9 c9, .int .i64 x.e] (noLimb6 _ _ _ _ _ _ _ _ _ _)
  have hi_ := (((HB.out.wl.step ho).cons (Lib.hid hv9)).cons (Lib.hid hv8)).step ((Only.refl [] w14).alloc (.cells #[.bool s8, .slice A8 k8 c8, .int .i64 x.e, .bool s9, .slice A9 k9 c9, .int .i64 x.e] 34))
  clear HB hv8 hv9 ho HE1 HE3 Hf HLf Hx
  have HG := Lib.hid hg_
  have HI := Lib.hid hi_
  have HR := Lib.hid (RL.nil (w14.alloc (.cells #[.bool s8, .slice A8 k8 c8, .int .i64 x.e, .bool s9, .slice A9 k9 c9, .int .i64 x.e] 34)))
  clear hg_ hi_
  go_upto_region 11 with fail
  generalize w14.heap.size = g_c at *
  generalize w14.alloc _ = w15 at *
  apply wp_region_typed2 (by kernel_rfl) [isV _, isV _, isV _, isV _, isV _, isV _, isV _, isV _, isV _, isD ll, isV _, isV _, isV _, isV _, isV _, isV _, isV _, isV _, isV _, isD hh, isV _, isV _, isV _, isV _, isV _, isV _, isV _, isV _, isV _, isV _, isV _, isV _, isV _, isV _, isV _, isRD x, isV _, isV _, isRD x, isV _, isV _, isV _, isV _] [[], [0], [1], [1, 2], [3], [4], [4, 5], [4], [4, 7], [4, 6, 8], [4], [4, 9, 10], [4, 11], [4, 12], [13], [14], [14, 15], [14], [14, 17], [14, 16, 18], [14], [14, 19, 20], [14, 21], [14, 22], [23], [24], [24], [24, 25, 26], [24, 27], [28], [29], [29, 30], [29, 31], [32], [32, 33], [32, 34], [32], [32, 36], [32, 37], [32, 35, 38], [29, 32, 39], [29, 40], [41]] (by kernel_rfl) (by kernel_rfl)
  case ho =>
    iterate 2
      refine owes2_cons (fun wx hox => ?_) ?_
      · skip
        refine withs_plain rfl ?_
        simp only [withs, List.getElem?_cons_zero, List.getElem?_cons_succ, Option.bind, Option.getD]
        repeat (first | (with_reducible refine all_isV ?_) | (with_reducible refine all_isRD ?_; intro sx Ax kx cx hvx hwx) | (with_reducible refine all_isD ?_; intro sx Ax kx cx hvx hwx))
        go_simp
        exact ⟨Only.refl _ _, isV.self _ _⟩
    refine owes2_cons (fun wx hox => ?_) ?_
    · skip
      refine withs_guard rfl rfl ?_
      simp only [withs, List.getElem?_cons_zero, List.getElem?_cons_succ, Option.bind, Option.getD]
      repeat (first | (with_reducible refine all_isV ?_) | (with_reducible refine all_isRD ?_; intro sx Ax kx cx hvx hwx) | (with_reducible refine all_isD ?_; intro sx Ax kx cx hvx hwx))
      refine ⟨by kernel_rfl, ?_⟩
      go_simp
      exact ⟨Only.refl _ _, isV.self _ _⟩
    iterate 2
      refine owes2_cons (fun wx hox => ?_) ?_
      · skip
        refine withs_plain rfl ?_
        simp only [withs, List.getElem?_cons_zero, List.getElem?_cons_succ, Option.bind, Option.getD]
        repeat (first | (with_reducible refine all_isV ?_) | (with_reducible refine all_isRD ?_; intro sx Ax kx cx hvx hwx) | (with_reducible refine all_isD ?_; intro sx Ax kx cx hvx hwx))
        go_simp
        exact ⟨Only.refl _ _, isV.self _ _⟩
    refine owes2_cons (fun wx hox => ?_) ?_
    · skip
      refine withs_guard rfl rfl ?_
      simp only [withs, List.getElem?_cons_zero, List.getElem?_cons_succ, Option.bind, Option.getD]
      repeat (first | (with_reducible refine all_isV ?_) | (with_reducible refine all_isRD ?_; intro sx Ax kx cx hvx hwx) | (with_reducible refine all_isD ?_; intro sx Ax kx cx hvx hwx))
      refine ⟨by kernel_rfl, ?_⟩
      go_simp
      exact ⟨Only.refl _ _, isV.self _ _⟩
    refine owes2_cons (fun wx hox => ?_) ?_
    · skip
      have hg := Lib.hid (HG.out.step hox)
      have hi := Lib.hid (HI.out.step hox)
      have hr := Lib.hid (HR.out.step hox)
      obtain ⟨x1_0, x1_1, x1_2, x1_3, x1_4, x1_5⟩ := GB.c6 hg 2 rfl
      clear hg hi hr
      refine withs_guard rfl rfl ?_
      simp only [withs, List.getElem?_cons_zero, List.getElem?_cons_succ, Option.bind, Option.getD]
      repeat (first | (with_reducible refine all_isV ?_) | (with_reducible refine all_isRD ?_; intro sx Ax kx cx hvx hwx) | (with_reducible refine all_isD ?_; intro sx Ax kx cx hvx hwx))
      refine ⟨by kernel_rfl, ?_⟩
      go_simp
      exact ⟨Only.refl _ _, isV.self _ _⟩
    refine owes2_cons (fun wx hox => ?_) ?_
    · skip
      refine withs_guard rfl rfl ?_
      simp only [withs, List.getElem?_cons_zero, List.getElem?_cons_succ, Option.bind, Option.getD]
      repeat (first | (with_reducible refine all_isV ?_) | (with_reducible refine all_isRD ?_; intro sx Ax kx cx hvx hwx) | (with_reducible refine all_isD ?_; intro sx Ax kx cx hvx hwx))
      refine ⟨by kernel_rfl, ?_⟩
      go_simp
      exact ⟨Only.refl _ _, isV.self _ _⟩
    refine owes2_cons (fun wx hox => ?_) ?_
    · skip
      have hg := Lib.hid (HG.out.step hox)
      have hi := Lib.hid (HI.out.step hox)
      have hr := Lib.hid (HR.out.step hox)
      obtain ⟨x2_0, x2_1, x2_2, x2_3, x2_4, x2_5⟩ := GB.c6 hg 2 rfl
      clear hg hi hr
      refine withs_guard rfl rfl ?_
      simp only [withs, List.getElem?_cons_zero, List.getElem?_cons_succ, Option.bind, Option.getD]
      repeat (first | (with_reducible refine all_isV ?_) | (with_reducible refine all_isRD ?_; intro sx Ax kx cx hvx hwx) | (with_reducible refine all_isD ?_; intro sx Ax kx cx hvx hwx))
      refine ⟨by kernel_rfl, ?_⟩
      go_simp
      exact ⟨Only.refl _ _, isV.self _ _⟩
    refine owes2_cons (fun wx hox => ?_) ?_
    · skip
      have hg := Lib.hid (HG.out.step hox)
      have hi := Lib.hid (HI.out.step hox)
      have hr := Lib.hid (HR.out.step hox)
      have dv_bl := (WL.dv (x := dn) hi 3 rfl)
      have htx := Lib.hid (hT.out.keep hg.out.only)
      clear hg hi hr
      refine withs_guard rfl rfl ?_
      simp only [withs, List.getElem?_cons_zero, List.getElem?_cons_succ, Option.bind, Option.getD]
      repeat (first | (with_reducible refine all_isV ?_) | (with_reducible refine all_isRD ?_; intro sx Ax kx cx hvx hwx) | (with_reducible refine all_isD ?_; intro sx Ax kx cx hvx hwx))
      refine ⟨by kernel_rfl, ?_⟩
      go_simp
      (with_reducible exact grow_d (mulV_d ll Hll.out dv_bl dv_bl Blo Blo (by omega) htx))
    refine owes2_cons (fun wx hox => ?_) ?_
    · skip
      have hg := Lib.hid (HG.out.step hox)
      have hi := Lib.hid (HI.out.step hox)
      have hr := Lib.hid (HR.out.step hox)
      obtain ⟨x3_0, x3_1, x3_2⟩ := GB.c3 hg 1 rfl
      clear hg hi hr
      refine withs_guard rfl rfl ?_
      simp only [withs, List.getElem?_cons_zero, List.getElem?_cons_succ, Option.bind, Option.getD]
      repeat (first | (with_reducible refine all_isV ?_) | (with_reducible refine all_isRD ?_; intro sx Ax kx cx hvx hwx) | (with_reducible refine all_isD ?_; intro sx Ax kx cx hvx hwx))
      refine ⟨by kernel_rfl, ?_⟩
      go_simp
      exact ⟨Only.refl _ _, isV.self _ _⟩
    refine owes2_cons (fun wx hox => ?_) ?_
    · skip
      have hg := Lib.hid (HG.out.step hox)
      have hi := Lib.hid (HI.out.step hox)
      have hr := Lib.hid (HR.out.step hox)
      have dv_x := (WL.dv (x := x) hi 2 rfl)
      clear hg hi hr
      refine withs_guard rfl rfl ?_
      simp only [withs, List.getElem?_cons_zero, List.getElem?_cons_succ, Option.bind, Option.getD]
      repeat (first | (with_reducible refine all_isV ?_) | (with_reducible refine all_isRD ?_; intro sx Ax kx cx hvx hwx) | (with_reducible refine all_isD ?_; intro sx Ax kx cx hvx hwx))
      refine ⟨by kernel_rfl, ?_⟩
      go_simp
      (with_reducible exact grow_of (cmpV_d (x := ll) (y := x) c1 (DV.of (by assumption)) dv_x Bll (Lib.hid (Bx.out.mono (by omega))) (by omega) Hc1.out))
    refine owes2_cons (fun wx hox => ?_) ?_
    · skip
      refine withs_guard rfl rfl ?_
      simp only [withs, List.getElem?_cons_zero, List.getElem?_cons_succ, Option.bind, Option.getD]
      repeat (first | (with_reducible refine all_isV ?_) | (with_reducible refine all_isRD ?_; intro sx Ax kx cx hvx hwx) | (with_reducible refine all_isD ?_; intro sx Ax kx cx hvx hwx))
      refine ⟨by kernel_rfl, ?_⟩
      go_simp
      exact ⟨Only.refl _ _, isV.self _ _⟩
    iterate 2
      refine owes2_cons (fun wx hox => ?_) ?_
      · skip
        refine withs_plain rfl ?_
        simp only [withs, List.getElem?_cons_zero, List.getElem?_cons_succ, Option.bind, Option.getD]
        repeat (first | (with_reducible refine all_isV ?_) | (with_reducible refine all_isRD ?_; intro sx Ax kx cx hvx hwx) | (with_reducible refine all_isD ?_; intro sx Ax kx cx hvx hwx))
        go_simp
        exact ⟨Only.refl _ _, isV.self _ _⟩
    refine owes2_cons (fun wx hox => ?_) ?_
    · skip
      refine withs_guard rfl rfl ?_
      simp only [withs, List.getElem?_cons_zero, List.getElem?_cons_succ, Option.bind, Option.getD]
      repeat (first | (with_reducible refine all_isV ?_) | (with_reducible refine all_isRD ?_; intro sx Ax kx cx hvx hwx) | (with_reducible refine all_isD ?_; intro sx Ax kx cx hvx hwx))
      refine ⟨by kernel_rfl, ?_⟩
      go_simp
      exact ⟨Only.refl _ _, isV.self _ _⟩
    refine owes2_cons (fun wx hox => ?_) ?_
    · skip
      have hg := Lib.hid (HG.out.step hox)
      have hi := Lib.hid (HI.out.step hox)
      have hr := Lib.hid (HR.out.step hox)
      obtain ⟨x4_0, x4_1, x4_2, x4_3, x4_4, x4_5⟩ := GB.c6 hg 2 rfl
      clear hg hi hr
      refine withs_guard rfl rfl ?_
      simp only [withs, List.getElem?_cons_zero, List.getElem?_cons_succ, Option.bind, Option.getD]
      repeat (first | (with_reducible refine all_isV ?_) | (with_reducible refine all_isRD ?_; intro sx Ax kx cx hvx hwx) | (with_reducible refine all_isD ?_; intro sx Ax kx cx hvx hwx))
      refine ⟨by kernel_rfl, ?_⟩
      go_simp
      exact ⟨Only.refl _ _, isV.self _ _⟩
    refine owes2_cons (fun wx hox => ?_) ?_
    · skip
      refine withs_guard rfl rfl ?_
      simp only [withs, List.getElem?_cons_zero, List.getElem?_cons_succ, Option.bind, Option.getD]
      repeat (first | (with_reducible refine all_isV ?_) | (with_reducible refine all_isRD ?_; intro sx Ax kx cx hvx hwx) | (with_reducible refine all_isD ?_; intro sx Ax kx cx hvx hwx))
      refine ⟨by kernel_rfl, ?_⟩
      go_simp
      exact ⟨Only.refl _ _, isV.self _ _⟩
    refine owes2_cons (fun wx hox => ?_) ?_
    · skip
      have hg := Lib.hid (HG.out.step hox)
      have hi := Lib.hid (HI.out.step hox)
      have hr := Lib.hid (HR.out.step hox)
      obtain ⟨x5_0, x5_1, x5_2, x5_3, x5_4, x5_5⟩ := GB.c6 hg 2 rfl
      clear hg hi hr
      refine withs_guard rfl rfl ?_
      simp only [withs, List.getElem?_cons_zero, List.getElem?_cons_succ, Option.bind, Option.getD]
      repeat (first | (with_reducible refine all_isV ?_) | (with_reducible refine all_isRD ?_; intro sx Ax kx cx hvx hwx) | (with_reducible refine all_isD ?_; intro sx Ax kx cx hvx hwx))
      refine ⟨by kernel_rfl, ?_⟩
      go_simp
      exact ⟨Only.refl _ _, isV.self _ _⟩
    refine owes2_cons (fun wx hox => ?_) ?_
    · skip
      have hg := Lib.hid (HG.out.step hox)
      have hi := Lib.hid (HI.out.step hox)
      have hr := Lib.hid (HR.out.step hox)
      have dv_bh := (WL.dv (x := up) hi 4 rfl)
      have htx := Lib.hid (hT.out.keep hg.out.only)
      clear hg hi hr
      refine withs_guard rfl rfl ?_
      simp only [withs, List.getElem?_cons_zero, List.getElem?_cons_succ, Option.bind, Option.getD]
      repeat (first | (with_reducible refine all_isV ?_) | (with_reducible refine all_isRD ?_; intro sx Ax kx cx hvx hwx) | (with_reducible refine all_isD ?_; intro sx Ax kx cx hvx hwx))
      refine ⟨by kernel_rfl, ?_⟩
      go_simp
      (with_reducible exact grow_d (mulV_d hh Hhh.out dv_bh dv_bh Bhi Bhi (by omega) htx))
    refine owes2_cons (fun wx hox => ?_) ?_
    · skip
      have hg := Lib.hid (HG.out.step hox)
      have hi := Lib.hid (HI.out.step hox)
      have hr := Lib.hid (HR.out.step hox)
      obtain ⟨x6_0, x6_1, x6_2⟩ := GB.c3 hg 1 rfl
      clear hg hi hr
      refine withs_guard rfl rfl ?_
      simp only [withs, List.getElem?_cons_zero, List.getElem?_cons_succ, Option.bind, Option.getD]
      repeat (first | (with_reducible refine all_isV ?_) | (with_reducible refine all_isRD ?_; intro sx Ax kx cx hvx hwx) | (with_reducible refine all_isD ?_; intro sx Ax kx cx hvx hwx))
      refine ⟨by kernel_rfl, ?_⟩
      go_simp
      exact ⟨Only.refl _ _, isV.self _ _⟩
    refine owes2_cons (fun wx hox => ?_) ?_
    · skip
      have hg := Lib.hid (HG.out.step hox)
      have hi := Lib.hid (HI.out.step hox)
      have hr := Lib.hid (HR.out.step hox)
      have dv_x := (WL.dv (x := x) hi 2 rfl)
      clear hg hi hr
      refine withs_guard rfl rfl ?_
      simp only [withs, List.getElem?_cons_zero, List.getElem?_cons_succ, Option.bind, Option.getD]
      repeat (first | (with_reducible refine all_isV ?_) | (with_reducible refine all_isRD ?_; intro sx Ax kx cx hvx hwx) | (with_reducible refine all_isD ?_; intro sx Ax kx cx hvx hwx))
      refine ⟨by kernel_rfl, ?_⟩
      go_simp
      (with_reducible exact grow_of (cmpV_d (x := hh) (y := x) c2 (DV.of (by assumption)) dv_x Bhh (Lib.hid (Bx.out.mono (by omega))) (by omega) Hc2.out))
    refine owes2_cons (fun wx hox => ?_) ?_
    · skip
      refine withs_guard rfl rfl ?_
      simp only [withs, List.getElem?_cons_zero, List.getElem?_cons_succ, Option.bind, Option.getD]
      repeat (first | (with_reducible refine all_isV ?_) | (with_reducible refine all_isRD ?_; intro sx Ax kx cx hvx hwx) | (with_reducible refine all_isD ?_; intro sx Ax kx cx hvx hwx))
      refine ⟨by kernel_rfl, ?_⟩
      go_simp
      exact ⟨Only.refl _ _, isV.self _ _⟩
    iterate 2
      refine owes2_cons (fun wx hox => ?_) ?_
      · skip
        refine withs_plain rfl ?_
        simp only [withs, List.getElem?_cons_zero, List.getElem?_cons_succ, Option.bind, Option.getD]
        repeat (first | (with_reducible refine all_isV ?_) | (with_reducible refine all_isRD ?_; intro sx Ax kx cx hvx hwx) | (with_reducible refine all_isD ?_; intro sx Ax kx cx hvx hwx))
        go_simp
        exact ⟨Only.refl _ _, isV.self _ _⟩
    refine owes2_cons (fun wx hox => ?_) ?_
    · skip
      have hg := Lib.hid (HG.out.step hox)
      have hi := Lib.hid (HI.out.step hox)
      have hr := Lib.hid (HR.out.step hox)
      obtain ⟨x7_0, x7_1, x7_2, x7_3, x7_4, x7_5⟩ := GB.c6 hg 0 rfl
      clear hg hi hr
      refine withs_guard rfl rfl ?_
      simp only [withs, List.getElem?_cons_zero, List.getElem?_cons_succ, Option.bind, Option.getD]
      repeat (first | (with_reducible refine all_isV ?_) | (with_reducible refine all_isRD ?_; intro sx Ax kx cx hvx hwx) | (with_reducible refine all_isD ?_; intro sx Ax kx cx hvx hwx))
      refine ⟨by kernel_rfl, ?_⟩
      go_simp
      exact ⟨Only.refl _ _, isV.self _ _⟩
    refine owes2_cons (fun wx hox => ?_) ?_
    · skip
      have hg := Lib.hid (HG.out.step hox)
      have hi := Lib.hid (HI.out.step hox)
      have hr := Lib.hid (HR.out.step hox)
      obtain ⟨x8_0, x8_1, x8_2⟩ := GB.c3 hg 1 rfl
      clear hg hi hr
      refine withs_guard rfl rfl ?_
      simp only [withs, List.getElem?_cons_zero, List.getElem?_cons_succ, Option.bind, Option.getD]
      repeat (first | (with_reducible refine all_isV ?_) | (with_reducible refine all_isRD ?_; intro sx Ax kx cx hvx hwx) | (with_reducible refine all_isD ?_; intro sx Ax kx cx hvx hwx))
      refine ⟨by kernel_rfl, ?_⟩
      go_simp
      exact ⟨Only.refl _ _, isV.self _ _⟩
    refine owes2_cons (fun wx hox => ?_) ?_
    · skip
      have hg := Lib.hid (HG.out.step hox)
      have hi := Lib.hid (HI.out.step hox)
      have hr := Lib.hid (HR.out.step hox)
      have dv_x := (WL.dv (x := x) hi 2 rfl)
      have bv_cl_ch := (BV.of (x := x) (y := x) (WL.at (z := x.z) hi 0 rfl) (WL.at (z := x.z) hi 1 rfl))
      clear hg hi hr
      refine withs_guard rfl rfl ?_
      simp only [withs, List.getElem?_cons_zero, List.getElem?_cons_succ, Option.bind, Option.getD]
      repeat (first | (with_reducible refine all_isV ?_) | (with_reducible refine all_isRD ?_; intro sx Ax kx cx hvx hwx) | (with_reducible refine all_isD ?_; intro sx Ax kx cx hvx hwx))
      refine ⟨by kernel_rfl, ?_⟩
      go_simp
      (with_reducible exact grow_of (has_b true HHas.out bv_cl_ch dv_x Bx Bx Bx (by omega)))
    iterate 2
      refine owes2_cons (fun wx hox => ?_) ?_
      · skip
        refine withs_plain rfl ?_
        simp only [withs, List.getElem?_cons_zero, List.getElem?_cons_succ, Option.bind, Option.getD]
        repeat (first | (with_reducible refine all_isV ?_) | (with_reducible refine all_isRD ?_; intro sx Ax kx cx hvx hwx) | (with_reducible refine all_isD ?_; intro sx Ax kx cx hvx hwx))
        go_simp
        exact ⟨Only.refl _ _, isV.self _ _⟩
    iterate 4
      refine owes2_cons (fun wx hox => ?_) ?_
      · skip
        refine withs_guard rfl rfl ?_
        simp only [withs, List.getElem?_cons_zero, List.getElem?_cons_succ, Option.bind, Option.getD]
        repeat (first | (with_reducible refine all_isV ?_) | (with_reducible refine all_isRD ?_; intro sx Ax kx cx hvx hwx) | (with_reducible refine all_isD ?_; intro sx Ax kx cx hvx hwx))
        refine ⟨by kernel_rfl, ?_⟩
        go_simp
        exact ⟨Only.refl _ _, isV.self _ _⟩
    refine owes2_cons (fun wx hox => ?_) ?_
    · skip
      have hg := Lib.hid (HG.out.step hox)
      have hi := Lib.hid (HI.out.step hox)
      have hr := Lib.hid (HR.out.step hox)
      obtain ⟨x9_0, x9_1, x9_2, x9_3, x9_4, x9_5⟩ := GB.c6 hg 0 rfl
      clear hg hi hr
      refine withs_guard rfl rfl ?_
      simp only [withs, List.getElem?_cons_zero, List.getElem?_cons_succ, Option.bind, Option.getD]
      repeat (first | (with_reducible refine all_isV ?_) | (with_reducible refine all_isRD ?_; intro sx Ax kx cx hvx hwx) | (with_reducible refine all_isD ?_; intro sx Ax kx cx hvx hwx))
      refine ⟨by kernel_rfl, ?_⟩
      go_simp
      exact ⟨Only.refl _ _, isV.self _ _⟩
    refine owes2_cons (fun wx hox => ?_) ?_
    · skip
      have hg := Lib.hid (HG.out.step hox)
      have hi := Lib.hid (HI.out.step hox)
      have hr := Lib.hid (HR.out.step hox)
      have dv_cl := (WL.dv (x := x) hi 0 rfl)
      clear hg hi hr
      refine withs_guard rfl rfl ?_
      simp only [withs, List.getElem?_cons_zero, List.getElem?_cons_succ, Option.bind, Option.getD]
      repeat (first | (with_reducible refine all_isV ?_) | (with_reducible refine all_isRD ?_; intro sx Ax kx cx hvx hwx) | (with_reducible refine all_isD ?_; intro sx Ax kx cx hvx hwx))
      refine ⟨by kernel_rfl, ?_⟩
      go_simp
      (with_reducible exact grow_rd (rrefB_d x HxS.out dv_cl Bx (by omega)))
    refine owes2_cons (fun wx hox => ?_) ?_
    · skip
      refine withs_guard rfl rfl ?_
      simp only [withs, List.getElem?_cons_zero, List.getElem?_cons_succ, Option.bind, Option.getD]
      repeat (first | (with_reducible refine all_isV ?_) | (with_reducible refine all_isRD ?_; intro sx Ax kx cx hvx hwx) | (with_reducible refine all_isD ?_; intro sx Ax kx cx hvx hwx))
      refine ⟨by kernel_rfl, ?_⟩
      go_simp
      exact ⟨Only.refl _ _, isV.self _ _⟩
    refine owes2_cons (fun wx hox => ?_) ?_
    · skip
      have hg := Lib.hid (HG.out.step hox)
      have hi := Lib.hid (HI.out.step hox)
      have hr := Lib.hid (HR.out.step hox)
      obtain ⟨x10_0, x10_1, x10_2, x10_3, x10_4, x10_5⟩ := GB.c6 hg 0 rfl
      clear hg hi hr
      refine withs_guard rfl rfl ?_
      simp only [withs, List.getElem?_cons_zero, List.getElem?_cons_succ, Option.bind, Option.getD]
      repeat (first | (with_reducible refine all_isV ?_) | (with_reducible refine all_isRD ?_; intro sx Ax kx cx hvx hwx) | (with_reducible refine all_isD ?_; intro sx Ax kx cx hvx hwx))
      refine ⟨by kernel_rfl, ?_⟩
      go_simp
      exact ⟨Only.refl _ _, isV.self _ _⟩
    refine owes2_cons (fun wx hox => ?_) ?_
    · skip
      have hg := Lib.hid (HG.out.step hox)
      have hi := Lib.hid (HI.out.step hox)
      have hr := Lib.hid (HR.out.step hox)
      have dv_ch := (WL.dv (x := x) hi 1 rfl)
      clear hg hi hr
      refine withs_guard rfl rfl ?_
      simp only [withs, List.getElem?_cons_zero, List.getElem?_cons_succ, Option.bind, Option.getD]
      repeat (first | (with_reducible refine all_isV ?_) | (with_reducible refine all_isRD ?_; intro sx Ax kx cx hvx hwx) | (with_reducible refine all_isD ?_; intro sx Ax kx cx hvx hwx))
      refine ⟨by kernel_rfl, ?_⟩
      go_simp
      (with_reducible exact grow_rd (rrefB_d x HxS.out dv_ch Bx (by omega)))
    refine owes2_cons (fun wx hox => ?_) ?_
    · skip
      refine withs_guard rfl rfl ?_
      simp only [withs, List.getElem?_cons_zero, List.getElem?_cons_succ, Option.bind, Option.getD]
      repeat (first | (with_reducible refine all_isV ?_) | (with_reducible refine all_isRD ?_; intro sx Ax kx cx hvx hwx) | (with_reducible refine all_isD ?_; intro sx Ax kx cx hvx hwx))
      refine ⟨by kernel_rfl, ?_⟩
      go_simp
      (with_reducible exact grow_of (rsame_d (x := x) (y := x) (RD.of (by assumption) (by assumption)) (RD.of (by assumption) (by assumption)) Cx Bx Bx (by omega) rfl))
    refine owes2_cons (fun wx hox => ?_) ?_
    · skip
      refine withs_guard rfl rfl ?_
      simp only [withs, List.getElem?_cons_zero, List.getElem?_cons_succ, Option.bind, Option.getD]
      repeat (first | (with_reducible refine all_isV ?_) | (with_reducible refine all_isRD ?_; intro sx Ax kx cx hvx hwx) | (with_reducible refine all_isD ?_; intro sx Ax kx cx hvx hwx))
      refine ⟨by kernel_rfl, ?_⟩
      go_simp
      exact ⟨Only.refl _ _, isV.self _ _⟩
    iterate 2
      refine owes2_cons (fun wx hox => ?_) ?_
      · skip
        refine withs_plain rfl ?_
        simp only [withs, List.getElem?_cons_zero, List.getElem?_cons_succ, Option.bind, Option.getD]
        repeat (first | (with_reducible refine all_isV ?_) | (with_reducible refine all_isRD ?_; intro sx Ax kx cx hvx hwx) | (with_reducible refine all_isD ?_; intro sx Ax kx cx hvx hwx))
        go_simp
        exact ⟨Only.refl _ _, isV.self _ _⟩
    exact owes2_nil
  case hl =>
    repeat (refine List.forall_mem_cons.2 ⟨?_, ?_⟩; first | exact isV.lasts _ | exact isRD.lasts _ | exact isD.lasts _)
    exact fun _ h => (by cases h)
  intro wx hox
  refine withs_of (by simp only [List.length, List.range, List.range.loop]; exact rfl) ?_
  simp only [withs, List.getElem?_cons_zero, List.getElem?_cons_succ, Option.bind, Option.getD]
  repeat (first | (with_reducible refine all_isV ?_) | (with_reducible refine all_isRD ?_; intro sx Ax kx cx hvx hwx) | (with_reducible refine all_isD ?_; intro sx Ax kx cx hvx hwx))
  go_simp
  replace HG := Lib.hid (HG.out.step hox)
  replace HI := Lib.hid (HI.out.step hox)
  replace HR := Lib.hid (HR.out.step hox)
  clear hox
  go_wp2_with fail
  go_ret
  exact ⟨rfl, HG.out.only⟩

theorem evR {f : Nat} {n p : Int} {x dn up : Dy} (hp : 1 ≤ p ∧ p ≤ 65536) (HLf : LeafIs f n) (Hx : nrm n 0 = x) (Cx : Can x) (h0 : 0 ≤ x.z) (Bx : Bnd 8000 x) (Blo : Bnd 8000 dn) (Bhi : Bnd 8000 up) (hlo : sqrtQ (widthP p) false x = dn) (hhi : sqrtQ (widthP p) true x = up)
    (d : Nat) (v : Value) (m : Nat) (W : World) (hd : DagIs W d v (some m) (nsR f)) (hT : Tab6 W) : Calls Tryz.prog 74 #[.pointer (some ⟨d, 0, none⟩), .int .i64 1, .int .i64 p, .bool false] W (EvYes 1 dn up W) := by
  refine nev_yes d v (some m) (nsR f) 1 p W [0, 1] (fun i => if i = 0 then (x, x) else (dn, up)) dn up hd (okdR f) (by simp [nsR]) (by simp [nsR]) hp (belR f) (smallR f) (kindsR f) (fun k hk => ?_) rfl (Lib.hid hT)
  have : k = 0 ∨ k = 1 := by simp at hk; omega
  rcases this with rfl | rfl
  · exact ⟨combN_leaf (z := x) 0 f 0 0 rfl rfl (Lib.hid fun W hT => Hx ▸ HLf.2.2 W hT) Bx (by omega) Cx.nrm_self, nfits_bnd Bx Bx (by omega)⟩
  · exact ⟨combN_root (x := x) (y := x) 1 0 0 0 rfl rfl rfl h0 (by rw [if_neg (by omega)]; exact hlo) hhi Bx Bx (by omega), nfits_bnd Blo Bhi (by omega)⟩
theorem evS {f : Nat} {n : Int} {x xx : Dy} (HLf : LeafIs f n) (Hx : nrm n 0 = x) (Cx : Can x) (h0 : 0 ≤ x.z) (Bx : Bnd 8000 x) (Bxx : Bnd 32000 xx) (hxx : dMul x x = xx) (hs : Short 64 x) (hs2 : Short 64 xx)
    (d : Nat) (v : Value) (m : Nat) (W : World) (hd : DagIs W d v (some m) (nsS f)) (hT : Tab6 W) : Calls Tryz.prog 74 #[.pointer (some ⟨d, 0, none⟩), .int .i64 3, .int .i64 64, .bool false] W (EvYes 3 x x W) := by
  have hw : widthP 64 = 64 := by decide
  have Cxx : Can xx := hxx ▸ nrm_can _ _
  have hz0 : 0 ≤ xx.z := by
    have h1 : xx.q = x.q * x.q := by rw [← hxx, dMul_q]
    have h2 : 0 ≤ x.q := by
      rcases Int.lt_or_eq_of_le h0 with h | h
      · exact Rat.le_of_lt (q_pos.2 h)
      · rw [q_zero.2 h.symm]; exact Rat.le_refl
    rcases Int.lt_or_le xx.z 0 with h | h
    · exfalso
      have h3 : 0 ≤ xx.q := by rw [h1]; exact Rat.mul_nonneg h2 h2
      have h4 : (dNot xx).z ≠ 0 ∧ 0 < (dNot xx).q := by
        have h5 : 0 < (⟨-xx.z, xx.e⟩ : Dy).q := q_pos.2 (by show 0 < -xx.z; omega)
        have h6 : (dNot xx).q = (⟨-xx.z, xx.e⟩ : Dy).q := nrm_q _ _
        rw [h6]
        refine ⟨fun hc => ?_, h5⟩
        have := q_zero.2 hc
        rw [h6] at this
        rw [this] at h5
        exact absurd h5 (Rat.lt_irrefl)
      have h7 := h4.2
      rw [dNot_q] at h7
      grind
    · exact h
  refine nev_yes d v (some m) (nsS f) 3 64 W [0, 2, 3] (fun i => if i = 0 then (x, x) else if i = 2 then (xx, xx) else (x, x)) x x hd (okdS f) (by simp [nsS]) (by simp [nsS]) (by omega) (belS f) (smallS f) (kindsS f) (fun k hk => ?_) rfl (Lib.hid hT)
  have : k = 0 ∨ k = 1 ∨ k = 2 := by simp at hk; omega
  rcases this with rfl | rfl | rfl
  · exact ⟨combN_leaf (z := x) 0 f 0 0 rfl rfl (Lib.hid fun W hT => Hx ▸ HLf.2.2 W hT) Bx (by omega) Cx.nrm_self, nfits_bnd Bx Bx (by omega)⟩
  · exact ⟨combN_mul (x := x) (y := x) (u := x) (v := x) 2 0 0 0 rfl rfl rfl rfl (by rw [mulLo_same, hxx, hw]; exact rnd_can Cxx hs2) (by rw [mulHi_same, hxx, hw]; exact rnd_can Cxx hs2) Bx Bx Bx Bx (by omega), nfits_bnd Bxx Bxx (by omega)⟩
  · exact ⟨combN_root (x := xx) (y := xx) 3 0 2 0 rfl rfl rfl hz0 (by rw [if_neg (by omega), hw]; exact sqrt_sq (by omega) hs Cx h0 hxx) (by rw [hw]; exact sqrt_sq (by omega) hs Cx h0 hxx) Bxx Bxx (by omega), nfits_bnd Bx Bx (by omega)⟩
theorem nearRoots_any (n p : Int) (w : World) (_ : (Lit.int .i64 n).wf = true) (_ : (Lit.int .i64 p).wf = true) (hT : Hid (Tab6 w)) :
    Calls Tryz.prog 4 #[.int .i64 n, .int .i64 p] w fun e w' => e = .returned (.bool true) ∧ Only [] w w' := by
  by_cases h : 0 ≤ n ∧ n ≤ 1000000 ∧ 1 ≤ p ∧ p ≤ 400
  · obtain ⟨x, hx⟩ : ∃ x, nrm n 0 = x := ⟨_, rfl⟩
    have hP := widthP_range p
    have hPp : widthP p ≤ 400 := by unfold widthP; omega
    have Cx : Can x := hx ▸ nrm_can _ _
    have hxz : x.z.natAbs ≤ n.natAbs := by
      rw [← hx]
      by_cases h0 : n = 0
      · subst h0; simp [nrm_zero]
      · rw [nrm_nz 0 h0]
        show (sg _ _).natAbs ≤ _
        rw [sg_abs]
        exact Nat.div_le_self _ _
    have h0 : 0 ≤ x.z := by
      rw [← hx]
      by_cases h0 : n = 0
      · subst h0; simp [nrm_zero]
      · rw [nrm_nz 0 h0, decide_eq_false (show ¬ n < 0 by omega)]
        show (0 : Int) ≤ sg false _
        rw [sg_false]
        exact Int.natCast_nonneg _
    have B20 : Bnd 20 x := hx ▸ bnd_nrm (K := 20) (M := 0) (by omega) (by omega) (by omega) (by omega)
    have Bx : Bnd 8000 x := B20.mono (by omega)
    have Blo : Bnd 8000 (sqrtQ (widthP p) false x) := sqrtQ_bnd B20 (by omega)
    have Bhi : Bnd 8000 (sqrtQ (widthP p) true x) := sqrtQ_bnd B20 (by omega)
    have hs : Short 64 x := Nat.lt_of_lt_of_le B20.z (Nat.pow_le_pow_right (by omega) (by omega))
    have hs2 : Short 64 (dMul x x) := by
      have hb := (B20.mul B20 (M := 80) (by omega)).z
      have hm : (dMul x x).z.natAbs ≤ (x.z * x.z).natAbs := by
        unfold dMul
        by_cases h1 : x.z * x.z = 0
        · rw [h1, nrm_zero]; simp
        · rw [nrm_nz _ h1]
          show (sg _ _).natAbs ≤ _
          rw [sg_abs]
          exact Nat.div_le_self _ _
      have h2 : (x.z * x.z).natAbs < 2 ^ 40 := by
        rw [Int.natAbs_mul]
        have := Nat.mul_lt_mul'' B20.z B20.z
        rw [← Nat.pow_add] at this
        exact this
      exact Nat.lt_of_le_of_lt hm (Nat.lt_of_lt_of_le h2 (Nat.pow_le_pow_right (by omega) (by omega)))
    have HLf := leaf_int (z := n) (by omega)
    exact nroots_in n p (floatOfInt .f64 n) x (sqrtQ (widthP p) false x) (sqrtQ (widthP p) true x) _ _ _ _ w (by omega) (by omega) (by omega) (by omega) (decide_eq_false (by omega)) (Lib.hid rfl) (Lib.hid HLf) (Lib.hid hx) (Lib.hid Cx.nrm_self) (Lib.hid Cx) (Lib.hid Bx) (Lib.hid Blo) (Lib.hid Bhi) (Lib.hid rfl) (Lib.hid rfl)
      (Lib.hid (Blo.mul Blo (by omega))) (Lib.hid (Bhi.mul Bhi (by omega))) (Lib.hid rfl) (Lib.hid rfl) (cmp_le0 (by rw [dMul_q]; exact root_dn hP.1 h0)) (cmp_ge0 (by rw [dMul_q]; exact root_up hP.1 h0))
      (Lib.hid fun d v m W hd hT => evR (by omega) HLf hx Cx h0 Bx Blo Bhi rfl rfl d v m W hd hT) (Lib.hid fun d v m W hd hT => evS HLf hx Cx h0 Bx (Bx.mul Bx (by omega)) rfl hs hs2 d v m W hd hT)
      (Lib.hid (by simp)) hT
  · exact nroots_out n p w hT (by omega)
end Go.Proofs.YtigpnopeacicpaaGreatDoor
