/-
  DyadRounds: the walk.
-/
import Derived.Test.YtkibkmdgibemkaaGreatDoorTbGC
import Derived.Test.YtkibkmdgibemkaaGreatDoorTbGL
import Derived.Test.YtkibkmdgibemkaaGreatDoorTbIs3
import Derived.Test.YtkibkmdgibemkaaGreatDoorTbLawDyA
import Derived.Test.YtkibkmdgibemkaaGreatDoorTbDyK
import Derived.Test.YtkibkmdgibemkaaGreatDoorTbDyQ
import Derived.Test.YtkibkmdgibemkaaGreatDoorTbRdI
import Derived.Test.YtkibkmdgibemkaaGreatDoorTbBlP
namespace Go.Proofs.YtkibkmdgibemkaaGreatDoor
set_option linter.unusedSimpArgs false
open Go.RowKit
theorem rrefW_d {w : World} {a : Value} {x : Dy} {N : Nat} (r : Dy) (hr : nrm x.z x.e = r) (ha : Hid (DV w a x)) (bx : Hid (Bnd N x)) (hN : N ≤ 8000000) : Calls Tryz.prog 29 #[a] w (RDP r w) := hr ▸ rref_d ha bx hN
theorem is3_z {w : World} {s : Bool} {A : Option Addr} {k c : Nat} {x : Dy} (h0 : x = ⟨0, 0⟩) (hv : Hid (IV w (.agg #[.bool s, .slice A k c]) x.z)) (hc : Hid (Cn s k x.z)) : Calls Tryz.prog 34 #[.agg #[.bool s, .slice A k c, .int .i64 x.e], .agg #[.bool false, .slice none 0 0, .int .i64 0]] w fun e w' => e = .returned (.bool true) ∧ Only [] w w' := by
  subst h0
  exact is3_d (N := 1) (Lib.hid (isD.of (x := ⟨0, 0⟩) hv hc)) (Lib.hid ⟨false, none, 0, 0, rfl, ⟨by decide, by show 0 = (R.limbsOf 0).length; rw [R.limbsOf_zero]; rfl⟩, RV.nil _⟩) (Lib.hid (.inl ⟨rfl, rfl⟩)) (Lib.hid (bnd_zero 1)) (by omega)
set_option maxHeartbeats 8000000 in
set_option maxRecDepth 100000 in
theorem drnd_out1 (n1 n2 : Bool) (A1 A2 : Option Addr) (L1 L2 : List Nat) (c1 c2 : Nat) (e1 e2 p dir : Int) (w : World) (htab : Hid (Tab w)) (hT : Hid (Tab6 w)) (hl : lightN [⟨n1, A1, L1.length, c1, e1⟩, ⟨n2, A2, L2.length, c2, e2⟩] = false) :
    Calls Tryz.prog 5 #[.agg #[.bool n1, .slice A1 L1.length c1, .int .i64 e1], .agg #[.bool n2, .slice A2 L2.length c2, .int .i64 e2], .int .i64 p, .int .i64 dir] w fun e w' => e = .returned (.bool true) ∧ Only [] w w' := by
  have HL := Lib.hid hl
  clear hl
  have hlv := light3_v (w := ((w.alloc (.cells #[.bool n1, .slice A1 L1.length c1, .int .i64 e1] 54)).alloc (.cells #[.bool n2, .slice A2 L2.length c2, .int .i64 e2] 54))) [⟨n1, A1, L1.length, c1, e1⟩, ⟨n2, A2, L2.length, c2, e2⟩] 2 (Lib.hid rfl) (by omega)
  rw [HL.out] at hlv
  simp only [flatN, List.flatMap_cons, List.flatMap_nil, List.cons_append, List.nil_append, World.size_alloc] at hlv
  have hk := ((GB.start w).new 54 [.bool n1, .slice A1 L1.length c1, .int .i64 e1] (noLimb3 _ _ _ _ _)).new 54 [.bool n2, .slice A2 L2.length c2, .int .i64 e2] (noLimb3 _ _ _ _ _)
  simp only [World.size_alloc] at hk
  have HG := Lib.hid hk
  have HI := Lib.hid (WL.nil ((w.alloc (.cells #[.bool n1, .slice A1 L1.length c1, .int .i64 e1] 54)).alloc (.cells #[.bool n2, .slice A2 L2.length c2, .int .i64 e2] 54)))
  have HR := Lib.hid (RL.nil ((w.alloc (.cells #[.bool n1, .slice A1 L1.length c1, .int .i64 e1] 54)).alloc (.cells #[.bool n2, .slice A2 L2.length c2, .int .i64 e2] 54)))
  have HLV := Lib.hid hlv
  clear hlv hk HL
  go_enter Tryz.func5, Tryz.ntmps5
  obtain ⟨x1_0, x1_1, x1_2⟩ := GB.c3 HG 1 rfl
  obtain ⟨x2_0, x2_1, x2_2⟩ := GB.c3 HG 0 rfl
  go_wp2_with fail
  (with_reducible refine HLV.out.mono ?_)
  rintro e w1 ⟨rfl, ho⟩
  replace HG := Lib.hid (HG.out.step ho)
  replace HI := Lib.hid (HI.out.step ho)
  replace HR := Lib.hid (HR.out.step ho)
  clear ho
  clear x1_0 x1_1 x1_2 x2_0 x2_1 x2_2
  go_wp2_with fail
  (with_reducible refine (alive3_any _ (Lib.hid (htab.out.only HG.out.only)) (Lib.hid (hT.out.keep HG.out.only))).mono ?_)
  rintro e w102 ⟨rfl, ho⟩
  replace HG := Lib.hid (HG.out.step ho)
  replace HI := Lib.hid (HI.out.step ho)
  replace HR := Lib.hid (HR.out.step ho)
  clear ho
  go_wp2_with fail
  go_ret
  exact ⟨rfl, HG.out.only⟩
set_option maxHeartbeats 8000000 in
set_option maxRecDepth 100000 in
theorem drnd_out2 (n1 n2 : Bool) (A1 A2 : Option Addr) (L1 L2 : List Nat) (c1 c2 : Nat) (e1 e2 p dir : Int) (w : World) (htab : Hid (Tab w)) (hT : Hid (Tab6 w)) (hl : lightN [⟨n1, A1, L1.length, c1, e1⟩, ⟨n2, A2, L2.length, c2, e2⟩] = true) (hp : 400 < p) :
    Calls Tryz.prog 5 #[.agg #[.bool n1, .slice A1 L1.length c1, .int .i64 e1], .agg #[.bool n2, .slice A2 L2.length c2, .int .i64 e2], .int .i64 p, .int .i64 dir] w fun e w' => e = .returned (.bool true) ∧ Only [] w w' := by
  have HL := Lib.hid hl
  clear hl
  have hlv := light3_v (w := ((w.alloc (.cells #[.bool n1, .slice A1 L1.length c1, .int .i64 e1] 54)).alloc (.cells #[.bool n2, .slice A2 L2.length c2, .int .i64 e2] 54))) [⟨n1, A1, L1.length, c1, e1⟩, ⟨n2, A2, L2.length, c2, e2⟩] 2 (Lib.hid rfl) (by omega)
  rw [HL.out] at hlv
  simp only [flatN, List.flatMap_cons, List.flatMap_nil, List.cons_append, List.nil_append, World.size_alloc] at hlv
  have hk := ((GB.start w).new 54 [.bool n1, .slice A1 L1.length c1, .int .i64 e1] (noLimb3 _ _ _ _ _)).new 54 [.bool n2, .slice A2 L2.length c2, .int .i64 e2] (noLimb3 _ _ _ _ _)
  simp only [World.size_alloc] at hk
  have HG := Lib.hid hk
  have HI := Lib.hid (WL.nil ((w.alloc (.cells #[.bool n1, .slice A1 L1.length c1, .int .i64 e1] 54)).alloc (.cells #[.bool n2, .slice A2 L2.length c2, .int .i64 e2] 54)))
  have HR := Lib.hid (RL.nil ((w.alloc (.cells #[.bool n1, .slice A1 L1.length c1, .int .i64 e1] 54)).alloc (.cells #[.bool n2, .slice A2 L2.length c2, .int .i64 e2] 54)))
  have HLV := Lib.hid hlv
  clear hlv hk HL
  go_enter Tryz.func5, Tryz.ntmps5
  obtain ⟨x1_0, x1_1, x1_2⟩ := GB.c3 HG 1 rfl
  obtain ⟨x2_0, x2_1, x2_2⟩ := GB.c3 HG 0 rfl
  go_wp2_with fail
  (with_reducible refine HLV.out.mono ?_)
  rintro e w1 ⟨rfl, ho⟩
  replace HG := Lib.hid (HG.out.step ho)
  replace HI := Lib.hid (HI.out.step ho)
  replace HR := Lib.hid (HR.out.step ho)
  clear ho
  clear x1_0 x1_1 x1_2 x2_0 x2_1 x2_2
  go_wp2_with fail
  (with_reducible refine (alive3_any _ (Lib.hid (htab.out.only HG.out.only)) (Lib.hid (hT.out.keep HG.out.only))).mono ?_)
  rintro e w102 ⟨rfl, ho⟩
  replace HG := Lib.hid (HG.out.step ho)
  replace HI := Lib.hid (HI.out.step ho)
  replace HR := Lib.hid (HR.out.step ho)
  clear ho
  go_wp2_with fail
  go_ret
  exact ⟨rfl, HG.out.only⟩
set_option maxHeartbeats 8000000 in
set_option maxRecDepth 100000 in
theorem drnd_in_tt (n1 n2 : Bool) (A1 A2 : Option Addr) (L1 L2 : List Nat) (c1 c2 : Nat) (x y rx ry vq vr vn : Dy) (sx sy p dir : Int) (w : World) (N M : Nat) (hN : N ≤ 20000) (hM : M ≤ 900000) (hp : ¬ 400 < p) (HZ1 : Hid (sg n1 (val L1) = x.z)) (H1 : Hid (LimbsIn w A1 L1)) (hl1 : (L1.length : Int) ≤ 40) (he1 : -3000 ≤ x.e ∧ x.e ≤ 3000) (BX : Hid (Bnd N x)) (HZ2 : Hid (sg n2 (val L2) = y.z)) (H2 : Hid (LimbsIn w A2 L2)) (hl2 : (L2.length : Int) ≤ 40) (he2 : -3000 ≤ y.e ∧ y.e ≤ 3000) (BY : Hid (Bnd N y))
    (Hrx : Hid (nrm x.z x.e = rx)) (Hry : Hid (nrm y.z y.e = ry)) (Brx : Hid (Bnd M rx)) (Bry : Hid (Bnd M ry))
    (Hsx : Hid (rx.z.sign = sx)) (Hsy : Hid (ry.z.sign = sy)) (Hvn : Hid (rndD (widthP p) (decide (0 ≤ dir)) x = vn)) (Hrvn : Hid (rndD (widthP p) (decide (0 ≤ dir)) rx = vn)) (Hvq : Hid (quoQ (widthP p) (decide (0 ≤ dir)) x y = vq)) (Hvr : Hid (sqrtQ (widthP p) (decide (0 ≤ dir)) x = vr)) (Hokq : Hid (decide (y.z ≠ 0) = true)) (Hisq : Hid (decide (0 ≤ x.z) = true)) (Cvn : Hid (Can vn)) (Bvn : Hid (Bnd M vn))
    (Hrvq : Hid (quoQ (widthP p) (decide (0 ≤ dir)) rx ry = vq)) (Hy0 : Hid (ry.z ≠ 0)) (_ : (sy == 0) = false) (hsy2 : (sy != 0) = true) (Cvq : Hid (Can vq)) (Bvq : Hid (Bnd M vq))
    (Hrvr : Hid (sqrtQ (widthP p) (decide (0 ≤ dir)) rx = vr)) (Hx0 : Hid (0 ≤ rx.z)) (hsx : 0 ≤ sx) (Cvr : Hid (Can vr)) (Bvr : Hid (Bnd M vr)) (htab : Hid (Tab w)) (hT : Hid (Tab6 w)) :
    Calls Tryz.prog 5 #[.agg #[.bool n1, .slice A1 L1.length c1, .int .i64 x.e], .agg #[.bool n2, .slice A2 L2.length c2, .int .i64 y.e], .int .i64 p, .int .i64 dir] w fun e w' => e = .returned (.bool true) ∧ Only [] w w' := by
  have HL : Hid (lightN [⟨n1, A1, L1.length, c1, x.e⟩, ⟨n2, A2, L2.length, c2, y.e⟩] = true) := by
    show _ = _
    simp only [lightN, List.all_cons, List.all_nil, NR.ok, Bool.and_true, Bool.and_eq_true, decide_eq_true_eq]
    omega
  have hlv := light3_v (w := ((w.alloc (.cells #[.bool n1, .slice A1 L1.length c1, .int .i64 x.e] 54)).alloc (.cells #[.bool n2, .slice A2 L2.length c2, .int .i64 y.e] 54))) [⟨n1, A1, L1.length, c1, x.e⟩, ⟨n2, A2, L2.length, c2, y.e⟩] 2 (Lib.hid rfl) (by omega)
  rw [HL.out] at hlv
  simp only [flatN, List.flatMap_cons, List.flatMap_nil, List.cons_append, List.nil_append, World.size_alloc] at hlv
  have hk := ((GB.start w).new 54 [.bool n1, .slice A1 L1.length c1, .int .i64 x.e] (noLimb3 _ _ _ _ _)).new 54 [.bool n2, .slice A2 L2.length c2, .int .i64 y.e] (noLimb3 _ _ _ _ _)
  simp only [World.size_alloc] at hk
  have HG := Lib.hid hk
  have HI := Lib.hid (WL.nil ((w.alloc (.cells #[.bool n1, .slice A1 L1.length c1, .int .i64 x.e] 54)).alloc (.cells #[.bool n2, .slice A2 L2.length c2, .int .i64 y.e] 54)))
  have HR := Lib.hid (RL.nil ((w.alloc (.cells #[.bool n1, .slice A1 L1.length c1, .int .i64 x.e] 54)).alloc (.cells #[.bool n2, .slice A2 L2.length c2, .int .i64 y.e] 54)))
  have HLV := Lib.hid hlv
  replace H1 := Lib.hid (H1.out.only hk.only)
  replace H2 := Lib.hid (H2.out.only hk.only)
  clear hlv hk HL he1 he2
  go_enter Tryz.func5, Tryz.ntmps5
  obtain ⟨x1_0, x1_1, x1_2⟩ := GB.c3 HG 1 rfl
  obtain ⟨x2_0, x2_1, x2_2⟩ := GB.c3 HG 0 rfl
  go_wp2_with fail
  (with_reducible refine HLV.out.mono ?_)
  rintro e w1 ⟨rfl, ho⟩
  replace H1 := Lib.hid (H1.out.only ho)
  replace H2 := Lib.hid (H2.out.only ho)
  replace HG := Lib.hid (HG.out.step ho)
  replace HI := Lib.hid (HI.out.step ho)
  replace HR := Lib.hid (HR.out.step ho)
  clear ho
  clear x1_0 x1_1 x1_2 x2_0 x2_1 x2_2
  go_wp2_with fail
  (with_reducible refine (alive3_any _ (Lib.hid (htab.out.only HG.out.only)) (Lib.hid (hT.out.keep HG.out.only))).mono ?_)
  rintro e w102 ⟨rfl, ho⟩
  replace H1 := Lib.hid (H1.out.only ho)
  replace H2 := Lib.hid (H2.out.only ho)
  replace HG := Lib.hid (HG.out.step ho)
  replace HI := Lib.hid (HI.out.step ho)
  replace HR := Lib.hid (HR.out.step ho)
  clear ho
  go_upto_region 3 with fail
  have hald : ∀ w : World, (Instr.alloc 59 true (.tuple #[])).run Tryz.prog w = .ok (.pointer (some ⟨w.heap.size, 0, none⟩)) (w.alloc (.cells #[.bool false, .slice none 0 0, .int .i64 0] 59)) := fun _ => by kernel_rfl
  apply wp_region_typed_tail3 6 [4, 5] 59 #[.bool false, .slice none 0 0, .int .i64 0] (by kernel_rfl) (by kernel_rfl) hald (by kernel_rfl) [isV _, isDV x, isV _, isDV y, isPtr w102 59 [.bool false, .slice none 0 0, .int .i64 0], isPtr w102 59 [.bool false, .slice none 0 0, .int .i64 0]] [[], [0], [], [2], [], []] (by kernel_rfl) (by kernel_rfl) (by kernel_rfl)
  case ho =>
    simp only [List.take_succ_cons, List.take_zero]
    refine owes2_cons (fun wx hox => ?_) ?_
    · skip
      have hg := Lib.hid (HG.out.step hox)
      have hi := Lib.hid (HI.out.step hox)
      have hr := Lib.hid (HR.out.step hox)
      obtain ⟨x3_0, x3_1, x3_2⟩ := GB.c3 hg 1 rfl
      clear hg hi hr
      refine withs_plain rfl ?_
      simp only [withs, List.getElem?_cons_zero, List.getElem?_cons_succ, Option.bind, Option.getD]
      repeat (with_reducible refine all_isV ?_)
      go_simp
      exact ⟨Only.refl _ _, isV.self _ _⟩
    refine owes2_cons (fun wx hox => ?_) ?_
    · skip
      skip
      refine withs_plain rfl ?_
      simp only [withs, List.getElem?_cons_zero, List.getElem?_cons_succ, Option.bind, Option.getD]
      repeat (with_reducible refine all_isV ?_)
      go_simp
      (with_reducible exact grow_dv (numOfV_any n1 A1 L1 c1 x _ HZ1.out (Lib.hid (H1.out.only hox)) hl1))
    refine owes2_cons (fun wx hox => ?_) ?_
    · skip
      have hg := Lib.hid (HG.out.step hox)
      have hi := Lib.hid (HI.out.step hox)
      have hr := Lib.hid (HR.out.step hox)
      obtain ⟨x4_0, x4_1, x4_2⟩ := GB.c3 hg 0 rfl
      clear hg hi hr
      refine withs_plain rfl ?_
      simp only [withs, List.getElem?_cons_zero, List.getElem?_cons_succ, Option.bind, Option.getD]
      repeat (with_reducible refine all_isV ?_)
      go_simp
      exact ⟨Only.refl _ _, isV.self _ _⟩
    refine owes2_cons (fun wx hox => ?_) ?_
    · skip
      skip
      refine withs_plain rfl ?_
      simp only [withs, List.getElem?_cons_zero, List.getElem?_cons_succ, Option.bind, Option.getD]
      repeat (with_reducible refine all_isV ?_)
      go_simp
      (with_reducible exact grow_dv (numOfV_any n2 A2 L2 c2 y _ HZ2.out (Lib.hid (H2.out.only hox)) hl2))
    refine owes2_cons (fun wx hox => ?_) ?_
    · skip
      skip
      refine withs_plain rfl ?_
      simp only [withs, List.getElem?_cons_zero, List.getElem?_cons_succ, Option.bind, Option.getD]
      repeat (with_reducible refine all_isV ?_)
      go_simp
      (exact isPtr.new hox _ _)
    refine owes2_cons (fun wx hox => ?_) ?_
    · skip
      skip
      refine withs_plain rfl ?_
      simp only [withs, List.getElem?_cons_zero, List.getElem?_cons_succ, Option.bind, Option.getD]
      repeat (with_reducible refine all_isV ?_)
      go_simp
      (exact isPtr.new hox _ _)
    exact owes2_nil
  case hl =>
    repeat (refine List.forall_mem_cons.2 ⟨?_, ?_⟩; first | exact isV.lasts _ | exact isDV.lasts _ | exact isPtr.lasts _ _ _)
    exact fun _ h => (by cases h)
  simp only [List.drop_succ_cons, List.drop_zero]
  intro wx hox
  refine withs_of (by simp only [List.length, List.range, List.range.loop]; exact rfl) ?_
  simp only [withs, List.getElem?_cons_zero, List.getElem?_cons_succ, Option.bind, Option.getD]
  with_reducible refine all_isV ?_
  with_reducible refine all_isDV ?_
  intro s1 A1 k1 c1 hv1
  with_reducible refine all_isV ?_
  with_reducible refine all_isDV ?_
  intro s3 A3 k3 c3 hv3
  with_reducible refine all_isPtr ?_
  intro g4 hb4 hg4
  with_reducible refine all_isPtr ?_
  intro g5 hb5 hg5
  go_simp
  as_aux_lemma =>
    intro hap
    have n0_1 : ¬ g4 = g5 := fun hc => hap 4 (by decide) 5 (by decide) (by decide) 9 10 rfl rfl (by rw [hc]; rfl)
    have N0_1 := Lib.hid n0_1
    have N1_0 : Hid (¬ g5 = g4) := fun hc => n0_1 hc.symm
    clear n0_1
    clear hap
    have hsz := HG.out.only.size
    have hga0 := hg4.out
    have Ng0 : Hid (w.heap.size ≤ g4) := Nat.le_trans hsz hga0
    have Ne0 := Lib.hid (GB.apart HG.out hg4.out)
    have BL0 := hb4
    clear hga0 hb4 hg4
    have hga1 := hg5.out
    have Ng1 : Hid (w.heap.size ≤ g5) := Nat.le_trans hsz hga1
    have Ne1 := Lib.hid (GB.apart HG.out hg5.out)
    have BL1 := hb5
    clear hga1 hb5 hg5
    clear hsz
    replace HG := Lib.hid (HG.out.step hox)
    replace HI := Lib.hid (HI.out.step hox)
    replace HR := Lib.hid (HR.out.step hox)
    clear hox
    replace HI := Lib.hid (HI.out.cons hv1)
    replace HI := Lib.hid (HI.out.cons hv3)
    have HG9 := Lib.hid (HG.out.adopt3 (u := .bool s1) (v := .slice A1 k1 c1) (x := .int .i64 x.e) BL0.out (noLimb3 _ _ _ _ _) Ng0.out Ne0.out)
    have HI9 := Lib.hid (HI.out.far (only_set3 wx g4 (.bool s1) (.slice A1 k1 c1) (.int .i64 x.e)) BL0.out (noLimb3 _ _ _ _ _))
    have HR9 := Lib.hid (HR.out.far (only_set3 wx g4 (.bool s1) (.slice A1 k1 c1) (.int .i64 x.e)) BL0.out (noLimb3 _ _ _ _ _))
    replace BL1 := Lib.hid (Blk.farX BL1.out (only_set3 wx g4 (.bool s1) (.slice A1 k1 c1) (.int .i64 x.e)) N1_0.out)
    refine wpList_store 59 (.tmp 9) (.tmp 32) rfl rfl rfl (u := .pointer (some ⟨g4, 0, none⟩)) (v := .agg #[.bool s1, .slice A1 k1 c1, .int .i64 x.e]) (by kernel_rfl) (by kernel_rfl) (store_dy BL0.out _ _ _ _ _) ?_
    clear HG HI HR BL0 Ne0 Ng0
    generalize ((wx.setCell _ _).setCell _ _).setCell _ _ = wy0_w9 at *
    have HG := HG9
    have HI := HI9
    have HR := HR9
    clear HG9 HI9 HR9
    have HG9 := Lib.hid (HG.out.adopt3 (u := .bool s3) (v := .slice A3 k3 c3) (x := .int .i64 y.e) BL1.out (noLimb3 _ _ _ _ _) Ng1.out (GB.apart1 Ne1.out N0_1.out))
    have HI9 := Lib.hid (HI.out.far (only_set3 wy0_w9 g5 (.bool s3) (.slice A3 k3 c3) (.int .i64 y.e)) BL1.out (noLimb3 _ _ _ _ _))
    have HR9 := Lib.hid (HR.out.far (only_set3 wy0_w9 g5 (.bool s3) (.slice A3 k3 c3) (.int .i64 y.e)) BL1.out (noLimb3 _ _ _ _ _))
    refine wpList_store 59 (.tmp 10) (.tmp 34) rfl rfl rfl (u := .pointer (some ⟨g5, 0, none⟩)) (v := .agg #[.bool s3, .slice A3 k3 c3, .int .i64 y.e]) (by kernel_rfl) (by kernel_rfl) (store_dy BL1.out _ _ _ _ _) ?_
    clear HG HI HR BL1 Ne1 Ng1
    generalize ((wy0_w9.setCell _ _).setCell _ _).setCell _ _ = wy1_w9 at *
    have HG := HG9
    have HI := HI9
    have HR := HR9
    clear HG9 HI9 HR9
    clear N0_1 N1_0
    go_upto_region 4 with fail
    generalize hww_ : wy1_w9 = w9 at *
    clear hww_
    generalize hgg_ : g4 = g_a at *
    clear hgg_
    generalize hgg_ : g5 = g_b at *
    clear hgg_
    clear hald H1 H2
    have halr : ∀ w : World, (Instr.alloc 62 true (.tuple #[])).run Tryz.prog w = .ok (.pointer (some ⟨w.heap.size, 0, none⟩)) (w.alloc (.cells #[.bool false, .slice none 0 0, .int .i64 0] 62)) := fun _ => by kernel_rfl
    apply wp_region_typed_tail3 6 [4, 5] 62 #[.bool false, .slice none 0 0, .int .i64 0] (by kernel_rfl) (by kernel_rfl) halr (by kernel_rfl) [isV _, isRD rx, isV _, isRD ry, isPtr w9 62 [.bool false, .slice none 0 0, .int .i64 0], isPtr w9 62 [.bool false, .slice none 0 0, .int .i64 0]] [[], [0], [], [2], [], []] (by kernel_rfl) (by kernel_rfl) (by kernel_rfl)
    case ho =>
      simp only [List.take_succ_cons, List.take_zero]
      refine owes2_cons (fun wx hox => ?_) ?_
      · skip
        have hg := Lib.hid (HG.out.step hox)
        have hi := Lib.hid (HI.out.step hox)
        have hr := Lib.hid (HR.out.step hox)
        obtain ⟨x5_0, x5_1, x5_2⟩ := GB.c3 hg 1 rfl
        clear hg hi hr
        refine withs_plain rfl ?_
        simp only [withs, List.getElem?_cons_zero, List.getElem?_cons_succ, Option.bind, Option.getD]
        repeat (first | (with_reducible refine all_isV ?_) | (with_reducible refine all_isRD ?_; intro sx Ax kx cx hvx hwx))
        go_simp
        exact ⟨Only.refl _ _, isV.self _ _⟩
      refine owes2_cons (fun wx hox => ?_) ?_
      · skip
        have hg := Lib.hid (HG.out.step hox)
        have hi := Lib.hid (HI.out.step hox)
        have hr := Lib.hid (HR.out.step hox)
        have dv_x := (WL.dv (x := x) hi 1 rfl)
        clear hg hi hr
        refine withs_plain rfl ?_
        simp only [withs, List.getElem?_cons_zero, List.getElem?_cons_succ, Option.bind, Option.getD]
        repeat (first | (with_reducible refine all_isV ?_) | (with_reducible refine all_isRD ?_; intro sx Ax kx cx hvx hwx))
        go_simp
        (with_reducible exact grow_rd (rrefW_d (x := x) rx Hrx.out dv_x BX (by omega)))
      refine owes2_cons (fun wx hox => ?_) ?_
      · skip
        have hg := Lib.hid (HG.out.step hox)
        have hi := Lib.hid (HI.out.step hox)
        have hr := Lib.hid (HR.out.step hox)
        obtain ⟨x6_0, x6_1, x6_2⟩ := GB.c3 hg 0 rfl
        clear hg hi hr
        refine withs_plain rfl ?_
        simp only [withs, List.getElem?_cons_zero, List.getElem?_cons_succ, Option.bind, Option.getD]
        repeat (first | (with_reducible refine all_isV ?_) | (with_reducible refine all_isRD ?_; intro sx Ax kx cx hvx hwx))
        go_simp
        exact ⟨Only.refl _ _, isV.self _ _⟩
      refine owes2_cons (fun wx hox => ?_) ?_
      · skip
        have hg := Lib.hid (HG.out.step hox)
        have hi := Lib.hid (HI.out.step hox)
        have hr := Lib.hid (HR.out.step hox)
        have dv_y := (WL.dv (x := y) hi 0 rfl)
        clear hg hi hr
        refine withs_plain rfl ?_
        simp only [withs, List.getElem?_cons_zero, List.getElem?_cons_succ, Option.bind, Option.getD]
        repeat (first | (with_reducible refine all_isV ?_) | (with_reducible refine all_isRD ?_; intro sx Ax kx cx hvx hwx))
        go_simp
        (with_reducible exact grow_rd (rrefW_d (x := y) ry Hry.out dv_y BY (by omega)))
      refine owes2_cons (fun wx hox => ?_) ?_
      · skip
        skip
        refine withs_plain rfl ?_
        simp only [withs, List.getElem?_cons_zero, List.getElem?_cons_succ, Option.bind, Option.getD]
        repeat (first | (with_reducible refine all_isV ?_) | (with_reducible refine all_isRD ?_; intro sx Ax kx cx hvx hwx))
        go_simp
        (exact isPtr.new hox _ _)
      refine owes2_cons (fun wx hox => ?_) ?_
      · skip
        skip
        refine withs_plain rfl ?_
        simp only [withs, List.getElem?_cons_zero, List.getElem?_cons_succ, Option.bind, Option.getD]
        repeat (first | (with_reducible refine all_isV ?_) | (with_reducible refine all_isRD ?_; intro sx Ax kx cx hvx hwx))
        go_simp
        (exact isPtr.new hox _ _)
      exact owes2_nil
    case hl =>
      repeat (refine List.forall_mem_cons.2 ⟨?_, ?_⟩; first | exact isV.lasts _ | exact isRD.lasts _ | exact isPtr.lasts _ _ _)
      exact fun _ h => (by cases h)
    simp only [List.drop_succ_cons, List.drop_zero]
    intro wx hox
    refine withs_of (by simp only [List.length, List.range, List.range.loop]; exact rfl) ?_
    simp only [withs, List.getElem?_cons_zero, List.getElem?_cons_succ, Option.bind, Option.getD]
    with_reducible refine all_isV ?_
    with_reducible refine all_isRD ?_
    intro s1 A1 k1 c1 hv1 hw1
    with_reducible refine all_isV ?_
    with_reducible refine all_isRD ?_
    intro s3 A3 k3 c3 hv3 hw3
    with_reducible refine all_isPtr ?_
    intro g4 hb4 hg4
    with_reducible refine all_isPtr ?_
    intro g5 hb5 hg5
    go_simp
    as_aux_lemma =>
      intro hap
      have n0_1 : ¬ g4 = g5 := fun hc => hap 4 (by decide) 5 (by decide) (by decide) 11 12 rfl rfl (by rw [hc]; rfl)
      have N0_1 := Lib.hid n0_1
      have N1_0 : Hid (¬ g5 = g4) := fun hc => n0_1 hc.symm
      clear n0_1
      clear hap
      have hsz := HG.out.only.size
      have hga0 := hg4.out
      have Ng0 : Hid (w.heap.size ≤ g4) := Nat.le_trans hsz hga0
      have Ne0 := Lib.hid (GB.apart HG.out hg4.out)
      have BL0 := hb4
      clear hga0 hb4 hg4
      have hga1 := hg5.out
      have Ng1 : Hid (w.heap.size ≤ g5) := Nat.le_trans hsz hga1
      have Ne1 := Lib.hid (GB.apart HG.out hg5.out)
      have BL1 := hb5
      clear hga1 hb5 hg5
      clear hsz
      replace HG := Lib.hid (HG.out.step hox)
      replace HI := Lib.hid (HI.out.step hox)
      replace HR := Lib.hid (HR.out.step hox)
      clear hox
      replace HR := Lib.hid (HR.out.cons hv1 hw1)
      replace HR := Lib.hid (HR.out.cons hv3 hw3)
      have HG9 := Lib.hid (HG.out.adopt3 (u := .bool s1) (v := .slice A1 k1 c1) (x := .int .i64 rx.e) BL0.out (noLimb3 _ _ _ _ _) Ng0.out Ne0.out)
      have HI9 := Lib.hid (HI.out.far (only_set3 wx g4 (.bool s1) (.slice A1 k1 c1) (.int .i64 rx.e)) BL0.out (noLimb3 _ _ _ _ _))
      have HR9 := Lib.hid (HR.out.far (only_set3 wx g4 (.bool s1) (.slice A1 k1 c1) (.int .i64 rx.e)) BL0.out (noLimb3 _ _ _ _ _))
      replace BL1 := Lib.hid (Blk.farX BL1.out (only_set3 wx g4 (.bool s1) (.slice A1 k1 c1) (.int .i64 rx.e)) N1_0.out)
      refine wpList_store 62 (.tmp 11) (.tmp 36) rfl rfl rfl (u := .pointer (some ⟨g4, 0, none⟩)) (v := .agg #[.bool s1, .slice A1 k1 c1, .int .i64 rx.e]) (by kernel_rfl) (by kernel_rfl) (store_rd BL0.out _ _ _ _ _) ?_
      clear HG HI HR BL0 Ne0 Ng0
      generalize ((wx.setCell _ _).setCell _ _).setCell _ _ = wy0_w10 at *
      have HG := HG9
      have HI := HI9
      have HR := HR9
      clear HG9 HI9 HR9
      have HG9 := Lib.hid (HG.out.adopt3 (u := .bool s3) (v := .slice A3 k3 c3) (x := .int .i64 ry.e) BL1.out (noLimb3 _ _ _ _ _) Ng1.out (GB.apart1 Ne1.out N0_1.out))
      have HI9 := Lib.hid (HI.out.far (only_set3 wy0_w10 g5 (.bool s3) (.slice A3 k3 c3) (.int .i64 ry.e)) BL1.out (noLimb3 _ _ _ _ _))
      have HR9 := Lib.hid (HR.out.far (only_set3 wy0_w10 g5 (.bool s3) (.slice A3 k3 c3) (.int .i64 ry.e)) BL1.out (noLimb3 _ _ _ _ _))
      refine wpList_store 62 (.tmp 12) (.tmp 38) rfl rfl rfl (u := .pointer (some ⟨g5, 0, none⟩)) (v := .agg #[.bool s3, .slice A3 k3 c3, .int .i64 ry.e]) (by kernel_rfl) (by kernel_rfl) (store_rd BL1.out _ _ _ _ _) ?_
      clear HG HI HR BL1 Ne1 Ng1
      generalize ((wy0_w10.setCell _ _).setCell _ _).setCell _ _ = wy1_w10 at *
      have HG := HG9
      have HI := HI9
      have HR := HR9
      clear HG9 HI9 HR9
      clear N0_1 N1_0
      go_upto_region 5 with fail
      generalize hww_ : wy1_w10 = w10 at *
      clear hww_
      generalize hgg_ : g4 = g_p at *
      clear hgg_
      generalize hgg_ : g5 = g_q at *
      clear hgg_
      clear halr
      obtain ⟨x7_0, x7_1, x7_2⟩ := GB.c3 HG 3 rfl
      obtain ⟨x8_0, x8_1, x8_2⟩ := GB.c3 HG 2 rfl
      apply wp_region_lit
      refine wpList_load 59 (.tmp 9) 40 rfl rfl rfl (u := .pointer (some ⟨g_a, 0, none⟩)) (by kernel_rfl) (load_dy x7_0 x7_1 x7_2) ?_
      simp only [List.setIfInBounds_toArray, List.set_cons_zero, List.set_cons_succ]
      refine wpList_load 59 (.tmp 10) 41 rfl rfl rfl (u := .pointer (some ⟨g_b, 0, none⟩)) (by kernel_rfl) (load_dy x8_0 x8_1 x8_2) ?_
      simp only [List.setIfInBounds_toArray, List.set_cons_zero, List.set_cons_succ]
      clear x7_0 x7_1 x7_2 x8_0 x8_1 x8_2
      go_wp2_with fail
      (with_reducible refine (quoV_d p dir vq true Hvq.out Hokq.out (WL.dv (x := x) HI 1 rfl) (WL.dv (x := y) HI 0 rfl) BX BY (by omega) (Lib.hid (hT.out.keep HG.out.only))).mono ?_)
      rintro e w111 ⟨s_vq, A_vq, k_vq, c_vq, rfl, hs_, hk_, hv, ho⟩
      have HC_vq : Hid (Cn s_vq k_vq vq.z) := ⟨hs_, hk_⟩
      have HV_ := Lib.hid hv
      clear hs_ hk_ hv
      have h_ := HG.out.step ho
      have i_ := HI.out.step ho
      have r_ := HR.out.step ho
      replace i_ := i_.cons HV_
      replace h_ := h_.new 59 [.bool s_vq, .slice A_vq k_vq c_vq, .int .i64 vq.e] (noLimb3 _ _ _ _ _)
      replace i_ := i_.step ((Only.refl [] w111).alloc (.cells #[.bool s_vq, .slice A_vq k_vq c_vq, .int .i64 vq.e] 59))
      replace r_ := r_.step ((Only.refl [] w111).alloc (.cells #[.bool s_vq, .slice A_vq k_vq c_vq, .int .i64 vq.e] 59))
      replace HG := Lib.hid h_
      replace HI := Lib.hid i_
      replace HR := Lib.hid r_
      clear h_ i_ r_ ho
      clear HV_
      go_upto_region 6 with fail
      generalize w111.heap.size = g_vq at *
      generalize w111.alloc _ = w112 at *
      obtain ⟨x9_0, x9_1, x9_2⟩ := GB.c3 HG 4 rfl
      apply wp_region_lit
      refine wpList_load 59 (.tmp 9) 48 rfl rfl rfl (u := .pointer (some ⟨g_a, 0, none⟩)) (by kernel_rfl) (load_dy x9_0 x9_1 x9_2) ?_
      simp only [List.setIfInBounds_toArray, List.set_cons_zero, List.set_cons_succ]
      clear x9_0 x9_1 x9_2
      go_wp2_with fail
      (with_reducible refine (sqrtV_d p dir vr true Hvr.out Hisq.out (WL.dv (x := x) HI 2 rfl) BX (by omega) (Lib.hid (hT.out.keep HG.out.only))).mono ?_)
      rintro e w113 ⟨s_vr, A_vr, k_vr, c_vr, rfl, hs_, hk_, hv, ho⟩
      have HC_vr : Hid (Cn s_vr k_vr vr.z) := ⟨hs_, hk_⟩
      have HV_ := Lib.hid hv
      clear hs_ hk_ hv
      have h_ := HG.out.step ho
      have i_ := HI.out.step ho
      have r_ := HR.out.step ho
      replace i_ := i_.cons HV_
      replace h_ := h_.new 59 [.bool s_vr, .slice A_vr k_vr c_vr, .int .i64 vr.e] (noLimb3 _ _ _ _ _)
      replace i_ := i_.step ((Only.refl [] w113).alloc (.cells #[.bool s_vr, .slice A_vr k_vr c_vr, .int .i64 vr.e] 59))
      replace r_ := r_.step ((Only.refl [] w113).alloc (.cells #[.bool s_vr, .slice A_vr k_vr c_vr, .int .i64 vr.e] 59))
      replace HG := Lib.hid h_
      replace HI := Lib.hid i_
      replace HR := Lib.hid r_
      clear h_ i_ r_ ho
      clear HV_
      go_upto_region 7 with fail
      generalize w113.heap.size = g_vr at *
      generalize w113.alloc _ = w114 at *
      obtain ⟨x10_0, x10_1, x10_2⟩ := GB.c3 HG 2 rfl
      go_wp2_with fail
      (with_reducible refine (rsign_d sy (RL.rd (x := ry) HR 0 rfl) Hsy.out).mono ?_)
      rintro e w115 ⟨rfl, ho⟩
      replace HG := Lib.hid (HG.out.step ho)
      replace HI := Lib.hid (HI.out.step ho)
      replace HR := Lib.hid (HR.out.step ho)
      clear ho
      clear x10_0 x10_1 x10_2
      obtain ⟨x11_0, x11_1, x11_2⟩ := GB.c3 HG 3 rfl
      go_wp2_with fail
      (with_reducible refine (rsign_d sx (RL.rd (x := rx) HR 1 rfl) Hsx.out).mono ?_)
      rintro e w116 ⟨rfl, ho⟩
      replace HG := Lib.hid (HG.out.step ho)
      replace HI := Lib.hid (HI.out.step ho)
      replace HR := Lib.hid (HR.out.step ho)
      clear ho
      clear x11_0 x11_1 x11_2
      go_upto_region 9 with fail
      apply wp_region_typed2 (by kernel_rfl) [isV _, isV _, isV _, isV _, isV _, isV _, isV _, isRD vq, isV _, isV _, isV _, isV _, isV _, isV _, isV _, isV undef, isV undef, isV undef, isV undef, isV _, isV _, isV _, isV _, isV _, isV _, isV _, isV _, isV _, isRD vr, isV _, isV _, isV _, isV _, isV _, isV _, isV _, isV _, isV undef, isV undef, isV undef, isV undef, isV _, isV _] [[], [0], [1], [1], [1], [1], [1], [1, 3, 4, 5, 6], [1, 2, 7], [1, 8], [1, 9], [10], [11], [11, 12], [11, 13], [14], [14], [14, 15, 16], [14, 17], [11, 14, 18], [11, 19], [20], [21], [21, 22], [23], [23], [23], [23], [23, 25, 26, 27], [23, 24, 28], [23, 29], [21, 23, 30], [21, 31], [32], [33], [33, 34], [33, 35], [36], [36], [36, 37, 38], [36, 39], [33, 36, 40], [33, 41]] (by kernel_rfl) (by kernel_rfl)
      case ho =>
        refine owes2_cons (fun wx hox => ?_) ?_
        · skip
          skip
          refine withs_plain rfl ?_
          simp only [withs, List.getElem?_cons_zero, List.getElem?_cons_succ, Option.bind, Option.getD]
          repeat (first | (with_reducible refine all_isV ?_) | (with_reducible refine all_isRD ?_; intro sx Ax kx cx hvx hwx))
          go_simp
          exact ⟨Only.refl _ _, isV.self _ _⟩
        refine owes2_cons (fun wx hox => ?_) ?_
        · skip
          skip
          refine withs_plain rfl ?_
          simp only [withs, List.getElem?_cons_zero, List.getElem?_cons_succ, Option.bind, Option.getD]
          repeat (first | (with_reducible refine all_isV ?_) | (with_reducible refine all_isRD ?_; intro sx Ax kx cx hvx hwx))
          go_simp
          exact ⟨Only.refl _ _, isV.self _ _⟩
        refine owes2_cons (fun wx hox => ?_) ?_
        · skip
          have hg := Lib.hid (HG.out.step hox)
          have hi := Lib.hid (HI.out.step hox)
          have hr := Lib.hid (HR.out.step hox)
          obtain ⟨x12_0, x12_1, x12_2⟩ := GB.c3 hg 1 rfl
          clear hg hi hr
          refine withs_guard rfl rfl ?_
          simp only [withs, List.getElem?_cons_zero, List.getElem?_cons_succ, Option.bind, Option.getD]
          repeat (first | (with_reducible refine all_isV ?_) | (with_reducible refine all_isRD ?_; intro sx Ax kx cx hvx hwx))
          refine ⟨by kernel_rfl, ?_⟩
          go_simp
          exact ⟨Only.refl _ _, isV.self _ _⟩
        refine owes2_cons (fun wx hox => ?_) ?_
        · skip
          have hg := Lib.hid (HG.out.step hox)
          have hi := Lib.hid (HI.out.step hox)
          have hr := Lib.hid (HR.out.step hox)
          obtain ⟨x13_0, x13_1, x13_2⟩ := GB.c3 hg 3 rfl
          clear hg hi hr
          refine withs_guard rfl rfl ?_
          simp only [withs, List.getElem?_cons_zero, List.getElem?_cons_succ, Option.bind, Option.getD]
          repeat (first | (with_reducible refine all_isV ?_) | (with_reducible refine all_isRD ?_; intro sx Ax kx cx hvx hwx))
          refine ⟨by kernel_rfl, ?_⟩
          go_simp
          exact ⟨Only.refl _ _, isV.self _ _⟩
        refine owes2_cons (fun wx hox => ?_) ?_
        · skip
          have hg := Lib.hid (HG.out.step hox)
          have hi := Lib.hid (HI.out.step hox)
          have hr := Lib.hid (HR.out.step hox)
          obtain ⟨x14_0, x14_1, x14_2⟩ := GB.c3 hg 2 rfl
          clear hg hi hr
          refine withs_guard rfl rfl ?_
          simp only [withs, List.getElem?_cons_zero, List.getElem?_cons_succ, Option.bind, Option.getD]
          repeat (first | (with_reducible refine all_isV ?_) | (with_reducible refine all_isRD ?_; intro sx Ax kx cx hvx hwx))
          refine ⟨by kernel_rfl, ?_⟩
          go_simp
          exact ⟨Only.refl _ _, isV.self _ _⟩
        refine owes2_cons (fun wx hox => ?_) ?_
        · skip
          skip
          refine withs_guard rfl rfl ?_
          simp only [withs, List.getElem?_cons_zero, List.getElem?_cons_succ, Option.bind, Option.getD]
          repeat (first | (with_reducible refine all_isV ?_) | (with_reducible refine all_isRD ?_; intro sx Ax kx cx hvx hwx))
          refine ⟨by kernel_rfl, ?_⟩
          go_simp
          exact ⟨Only.refl _ _, isV.self _ _⟩
        refine owes2_cons (fun wx hox => ?_) ?_
        · skip
          skip
          refine withs_guard rfl rfl ?_
          simp only [withs, List.getElem?_cons_zero, List.getElem?_cons_succ, Option.bind, Option.getD]
          repeat (first | (with_reducible refine all_isV ?_) | (with_reducible refine all_isRD ?_; intro sx Ax kx cx hvx hwx))
          refine ⟨by kernel_rfl, ?_⟩
          go_simp
          exact ⟨Only.refl _ _, isV.self _ _⟩
        refine owes2_cons (fun wx hox => ?_) ?_
        · skip
          have hg := Lib.hid (HG.out.step hox)
          have hi := Lib.hid (HI.out.step hox)
          have hr := Lib.hid (HR.out.step hox)
          have rd_rx := (RL.rd (x := rx) hr 1 rfl)
          have rd_ry := (RL.rd (x := ry) hr 0 rfl)
          clear hg hi hr
          refine withs_guard rfl rfl ?_
          simp only [withs, List.getElem?_cons_zero, List.getElem?_cons_succ, Option.bind, Option.getD]
          repeat (first | (with_reducible refine all_isV ?_) | (with_reducible refine all_isRD ?_; intro sx Ax kx cx hvx hwx))
          refine ⟨by kernel_rfl, ?_⟩
          go_simp
          (with_reducible exact grow_rd (rquo_d p dir vq Hrvq.out Hy0.out rd_rx rd_ry Brx Bry (by omega)))
        refine owes2_cons (fun wx hox => ?_) ?_
        · skip
          have hg := Lib.hid (HG.out.step hox)
          have hi := Lib.hid (HI.out.step hox)
          have hr := Lib.hid (HR.out.step hox)
          have iv_vq := (WL.at (z := vq.z) hi 1 rfl)
          clear hg hi hr
          refine withs_guard rfl rfl ?_
          simp only [withs, List.getElem?_cons_zero, List.getElem?_cons_succ, Option.bind, Option.getD]
          repeat (first | (with_reducible refine all_isV ?_) | (with_reducible refine all_isRD ?_; intro sx Ax kx cx hvx hwx))
          refine ⟨by kernel_rfl, ?_⟩
          go_simp
          (with_reducible exact grow_of (is3_d (x := vq) (Lib.hid (isD.of iv_vq HC_vq)) (RD.of (by assumption) (by assumption)) Cvq Bvq (by omega)))
        refine owes2_cons (fun wx hox => ?_) ?_
        · skip
          skip
          refine withs_guard rfl rfl ?_
          simp only [withs, List.getElem?_cons_zero, List.getElem?_cons_succ, Option.bind, Option.getD]
          repeat (first | (with_reducible refine all_isV ?_) | (with_reducible refine all_isRD ?_; intro sx Ax kx cx hvx hwx))
          refine ⟨by kernel_rfl, ?_⟩
          go_simp
          exact ⟨Only.refl _ _, isV.self _ _⟩
        refine owes2_cons (fun wx hox => ?_) ?_
        · skip
          skip
          refine withs_plain rfl ?_
          simp only [withs, List.getElem?_cons_zero, List.getElem?_cons_succ, Option.bind, Option.getD]
          repeat (first | (with_reducible refine all_isV ?_) | (with_reducible refine all_isRD ?_; intro sx Ax kx cx hvx hwx))
          go_simp
          exact ⟨Only.refl _ _, isV.self _ _⟩
        refine owes2_cons (fun wx hox => ?_) ?_
        · skip
          skip
          refine withs_plain rfl ?_
          simp only [withs, List.getElem?_cons_zero, List.getElem?_cons_succ, Option.bind, Option.getD]
          repeat (first | (with_reducible refine all_isV ?_) | (with_reducible refine all_isRD ?_; intro sx Ax kx cx hvx hwx))
          go_simp
          exact ⟨Only.refl _ _, isV.self _ _⟩
        refine owes2_cons (fun wx hox => ?_) ?_
        · skip
          skip
          refine withs_guard rfl rfl ?_
          simp only [withs, List.getElem?_cons_zero, List.getElem?_cons_succ, Option.bind, Option.getD]
          repeat (first | (with_reducible refine all_isV ?_) | (with_reducible refine all_isRD ?_; intro sx Ax kx cx hvx hwx))
          refine ⟨by kernel_rfl, ?_⟩
          go_simp
          exact ⟨Only.refl _ _, isV.self _ _⟩
        refine owes2_cons (fun wx hox => ?_) ?_
        · skip
          skip
          refine withs_guard rfl rfl ?_
          simp only [withs, List.getElem?_cons_zero, List.getElem?_cons_succ, Option.bind, Option.getD]
          repeat (first | (with_reducible refine all_isV ?_) | (with_reducible refine all_isRD ?_; intro sx Ax kx cx hvx hwx))
          refine ⟨by kernel_rfl, ?_⟩
          go_simp
          exact ⟨Only.refl _ _, isV.self _ _⟩
        refine owes2_cons (fun wx hox => ?_) ?_
        · skip
          skip
          refine withs_guard rfl rfl ?_
          simp only [withs, List.getElem?_cons_zero, List.getElem?_cons_succ, Option.bind, Option.getD]
          repeat (first | (with_reducible refine all_isV ?_) | (with_reducible refine all_isRD ?_; intro sx Ax kx cx hvx hwx))
          refine ⟨by kernel_rfl, ?_⟩
          go_simp
          exact ⟨Only.refl _ _, isV.self _ _⟩
        refine owes2_cons (fun wx hox => ?_) ?_
        · refine withs_guardM false rfl rfl rfl ?_
          simp only [withs, List.getElem?_cons_zero, List.getElem?_cons_succ, Option.bind, Option.getD]
          repeat (first | (with_reducible refine all_isV ?_) | (with_reducible refine all_isRD ?_; intro sx Ax kx cx hvx hwx))
          exact ⟨by kernel_rfl, isV.self _ _⟩
        refine owes2_cons (fun wx hox => ?_) ?_
        · refine withs_guardM false rfl rfl rfl ?_
          simp only [withs, List.getElem?_cons_zero, List.getElem?_cons_succ, Option.bind, Option.getD]
          repeat (first | (with_reducible refine all_isV ?_) | (with_reducible refine all_isRD ?_; intro sx Ax kx cx hvx hwx))
          exact ⟨by kernel_rfl, isV.self _ _⟩
        refine owes2_cons (fun wx hox => ?_) ?_
        · refine withs_guardM false rfl rfl rfl ?_
          simp only [withs, List.getElem?_cons_zero, List.getElem?_cons_succ, Option.bind, Option.getD]
          repeat (first | (with_reducible refine all_isV ?_) | (with_reducible refine all_isRD ?_; intro sx Ax kx cx hvx hwx))
          exact ⟨by kernel_rfl, isV.self _ _⟩
        refine owes2_cons (fun wx hox => ?_) ?_
        · refine withs_guardM false rfl rfl rfl ?_
          simp only [withs, List.getElem?_cons_zero, List.getElem?_cons_succ, Option.bind, Option.getD]
          repeat (first | (with_reducible refine all_isV ?_) | (with_reducible refine all_isRD ?_; intro sx Ax kx cx hvx hwx))
          exact ⟨by kernel_rfl, isV.self _ _⟩
        refine owes2_cons (fun wx hox => ?_) ?_
        · skip
          skip
          refine withs_guard rfl rfl ?_
          simp only [withs, List.getElem?_cons_zero, List.getElem?_cons_succ, Option.bind, Option.getD]
          repeat (first | (with_reducible refine all_isV ?_) | (with_reducible refine all_isRD ?_; intro sx Ax kx cx hvx hwx))
          refine ⟨by kernel_rfl, ?_⟩
          go_simp
          exact ⟨Only.refl _ _, isV.self _ _⟩
        refine owes2_cons (fun wx hox => ?_) ?_
        · skip
          skip
          refine withs_plain rfl ?_
          simp only [withs, List.getElem?_cons_zero, List.getElem?_cons_succ, Option.bind, Option.getD]
          repeat (first | (with_reducible refine all_isV ?_) | (with_reducible refine all_isRD ?_; intro sx Ax kx cx hvx hwx))
          go_simp
          exact ⟨Only.refl _ _, isV.self _ _⟩
        refine owes2_cons (fun wx hox => ?_) ?_
        · skip
          skip
          refine withs_plain rfl ?_
          simp only [withs, List.getElem?_cons_zero, List.getElem?_cons_succ, Option.bind, Option.getD]
          repeat (first | (with_reducible refine all_isV ?_) | (with_reducible refine all_isRD ?_; intro sx Ax kx cx hvx hwx))
          go_simp
          exact ⟨Only.refl _ _, isV.self _ _⟩
        refine owes2_cons (fun wx hox => ?_) ?_
        · skip
          skip
          refine withs_guard rfl rfl ?_
          simp only [withs, List.getElem?_cons_zero, List.getElem?_cons_succ, Option.bind, Option.getD]
          repeat (first | (with_reducible refine all_isV ?_) | (with_reducible refine all_isRD ?_; intro sx Ax kx cx hvx hwx))
          refine ⟨by kernel_rfl, ?_⟩
          go_simp
          exact ⟨Only.refl _ _, isV.self _ _⟩
        refine owes2_cons (fun wx hox => ?_) ?_
        · skip
          skip
          refine withs_guard rfl rfl ?_
          simp only [withs, List.getElem?_cons_zero, List.getElem?_cons_succ, Option.bind, Option.getD]
          repeat (first | (with_reducible refine all_isV ?_) | (with_reducible refine all_isRD ?_; intro sx Ax kx cx hvx hwx))
          refine ⟨by kernel_rfl, ?_⟩
          go_simp
          exact ⟨Only.refl _ _, isV.self _ _⟩
        refine owes2_cons (fun wx hox => ?_) ?_
        · skip
          have hg := Lib.hid (HG.out.step hox)
          have hi := Lib.hid (HI.out.step hox)
          have hr := Lib.hid (HR.out.step hox)
          obtain ⟨x16_0, x16_1, x16_2⟩ := GB.c3 hg 0 rfl
          clear hg hi hr
          refine withs_guard rfl rfl ?_
          simp only [withs, List.getElem?_cons_zero, List.getElem?_cons_succ, Option.bind, Option.getD]
          repeat (first | (with_reducible refine all_isV ?_) | (with_reducible refine all_isRD ?_; intro sx Ax kx cx hvx hwx))
          refine ⟨by kernel_rfl, ?_⟩
          go_simp
          exact ⟨Only.refl _ _, isV.self _ _⟩
        refine owes2_cons (fun wx hox => ?_) ?_
        · skip
          have hg := Lib.hid (HG.out.step hox)
          have hi := Lib.hid (HI.out.step hox)
          have hr := Lib.hid (HR.out.step hox)
          obtain ⟨x17_0, x17_1, x17_2⟩ := GB.c3 hg 3 rfl
          clear hg hi hr
          refine withs_guard rfl rfl ?_
          simp only [withs, List.getElem?_cons_zero, List.getElem?_cons_succ, Option.bind, Option.getD]
          repeat (first | (with_reducible refine all_isV ?_) | (with_reducible refine all_isRD ?_; intro sx Ax kx cx hvx hwx))
          refine ⟨by kernel_rfl, ?_⟩
          go_simp
          exact ⟨Only.refl _ _, isV.self _ _⟩
        refine owes2_cons (fun wx hox => ?_) ?_
        · skip
          skip
          refine withs_guard rfl rfl ?_
          simp only [withs, List.getElem?_cons_zero, List.getElem?_cons_succ, Option.bind, Option.getD]
          repeat (first | (with_reducible refine all_isV ?_) | (with_reducible refine all_isRD ?_; intro sx Ax kx cx hvx hwx))
          refine ⟨by kernel_rfl, ?_⟩
          go_simp
          exact ⟨Only.refl _ _, isV.self _ _⟩
        refine owes2_cons (fun wx hox => ?_) ?_
        · skip
          skip
          refine withs_guard rfl rfl ?_
          simp only [withs, List.getElem?_cons_zero, List.getElem?_cons_succ, Option.bind, Option.getD]
          repeat (first | (with_reducible refine all_isV ?_) | (with_reducible refine all_isRD ?_; intro sx Ax kx cx hvx hwx))
          refine ⟨by kernel_rfl, ?_⟩
          go_simp
          exact ⟨Only.refl _ _, isV.self _ _⟩
        refine owes2_cons (fun wx hox => ?_) ?_
        · skip
          have hg := Lib.hid (HG.out.step hox)
          have hi := Lib.hid (HI.out.step hox)
          have hr := Lib.hid (HR.out.step hox)
          have rd_rx := (RL.rd (x := rx) hr 1 rfl)
          clear hg hi hr
          refine withs_guard rfl rfl ?_
          simp only [withs, List.getElem?_cons_zero, List.getElem?_cons_succ, Option.bind, Option.getD]
          repeat (first | (with_reducible refine all_isV ?_) | (with_reducible refine all_isRD ?_; intro sx Ax kx cx hvx hwx))
          refine ⟨by kernel_rfl, ?_⟩
          go_simp
          (with_reducible exact grow_rd (rdsqrt_d p dir vr Hrvr.out Hx0.out rd_rx Brx (by omega)))
        refine owes2_cons (fun wx hox => ?_) ?_
        · skip
          have hg := Lib.hid (HG.out.step hox)
          have hi := Lib.hid (HI.out.step hox)
          have hr := Lib.hid (HR.out.step hox)
          have iv_vr := (WL.at (z := vr.z) hi 0 rfl)
          clear hg hi hr
          refine withs_guard rfl rfl ?_
          simp only [withs, List.getElem?_cons_zero, List.getElem?_cons_succ, Option.bind, Option.getD]
          repeat (first | (with_reducible refine all_isV ?_) | (with_reducible refine all_isRD ?_; intro sx Ax kx cx hvx hwx))
          refine ⟨by kernel_rfl, ?_⟩
          go_simp
          (with_reducible exact grow_of (is3_d (x := vr) (Lib.hid (isD.of iv_vr HC_vr)) (RD.of (by assumption) (by assumption)) Cvr Bvr (by omega)))
        refine owes2_cons (fun wx hox => ?_) ?_
        · skip
          skip
          refine withs_guard rfl rfl ?_
          simp only [withs, List.getElem?_cons_zero, List.getElem?_cons_succ, Option.bind, Option.getD]
          repeat (first | (with_reducible refine all_isV ?_) | (with_reducible refine all_isRD ?_; intro sx Ax kx cx hvx hwx))
          refine ⟨by kernel_rfl, ?_⟩
          go_simp
          exact ⟨Only.refl _ _, isV.self _ _⟩
        refine owes2_cons (fun wx hox => ?_) ?_
        · skip
          skip
          refine withs_guard rfl rfl ?_
          simp only [withs, List.getElem?_cons_zero, List.getElem?_cons_succ, Option.bind, Option.getD]
          repeat (first | (with_reducible refine all_isV ?_) | (with_reducible refine all_isRD ?_; intro sx Ax kx cx hvx hwx))
          refine ⟨by kernel_rfl, ?_⟩
          go_simp
          exact ⟨Only.refl _ _, isV.self _ _⟩
        refine owes2_cons (fun wx hox => ?_) ?_
        · skip
          skip
          refine withs_plain rfl ?_
          simp only [withs, List.getElem?_cons_zero, List.getElem?_cons_succ, Option.bind, Option.getD]
          repeat (first | (with_reducible refine all_isV ?_) | (with_reducible refine all_isRD ?_; intro sx Ax kx cx hvx hwx))
          go_simp
          exact ⟨Only.refl _ _, isV.self _ _⟩
        refine owes2_cons (fun wx hox => ?_) ?_
        · skip
          skip
          refine withs_plain rfl ?_
          simp only [withs, List.getElem?_cons_zero, List.getElem?_cons_succ, Option.bind, Option.getD]
          repeat (first | (with_reducible refine all_isV ?_) | (with_reducible refine all_isRD ?_; intro sx Ax kx cx hvx hwx))
          go_simp
          exact ⟨Only.refl _ _, isV.self _ _⟩
        refine owes2_cons (fun wx hox => ?_) ?_
        · skip
          skip
          refine withs_guard rfl rfl ?_
          simp only [withs, List.getElem?_cons_zero, List.getElem?_cons_succ, Option.bind, Option.getD]
          repeat (first | (with_reducible refine all_isV ?_) | (with_reducible refine all_isRD ?_; intro sx Ax kx cx hvx hwx))
          refine ⟨by kernel_rfl, ?_⟩
          go_simp
          exact ⟨Only.refl _ _, isV.self _ _⟩
        refine owes2_cons (fun wx hox => ?_) ?_
        · skip
          skip
          refine withs_guard rfl rfl ?_
          simp only [withs, List.getElem?_cons_zero, List.getElem?_cons_succ, Option.bind, Option.getD]
          repeat (first | (with_reducible refine all_isV ?_) | (with_reducible refine all_isRD ?_; intro sx Ax kx cx hvx hwx))
          refine ⟨by kernel_rfl, ?_⟩
          go_simp
          exact ⟨Only.refl _ _, isV.self _ _⟩
        refine owes2_cons (fun wx hox => ?_) ?_
        · skip
          skip
          refine withs_guard rfl rfl ?_
          simp only [withs, List.getElem?_cons_zero, List.getElem?_cons_succ, Option.bind, Option.getD]
          repeat (first | (with_reducible refine all_isV ?_) | (with_reducible refine all_isRD ?_; intro sx Ax kx cx hvx hwx))
          refine ⟨by kernel_rfl, ?_⟩
          go_simp
          exact ⟨Only.refl _ _, isV.self _ _⟩
        refine owes2_cons (fun wx hox => ?_) ?_
        · refine withs_guardM false rfl rfl rfl ?_
          simp only [withs, List.getElem?_cons_zero, List.getElem?_cons_succ, Option.bind, Option.getD]
          repeat (first | (with_reducible refine all_isV ?_) | (with_reducible refine all_isRD ?_; intro sx Ax kx cx hvx hwx))
          exact ⟨by kernel_rfl, isV.self _ _⟩
        refine owes2_cons (fun wx hox => ?_) ?_
        · refine withs_guardM false rfl rfl rfl ?_
          simp only [withs, List.getElem?_cons_zero, List.getElem?_cons_succ, Option.bind, Option.getD]
          repeat (first | (with_reducible refine all_isV ?_) | (with_reducible refine all_isRD ?_; intro sx Ax kx cx hvx hwx))
          exact ⟨by kernel_rfl, isV.self _ _⟩
        refine owes2_cons (fun wx hox => ?_) ?_
        · refine withs_guardM false rfl rfl rfl ?_
          simp only [withs, List.getElem?_cons_zero, List.getElem?_cons_succ, Option.bind, Option.getD]
          repeat (first | (with_reducible refine all_isV ?_) | (with_reducible refine all_isRD ?_; intro sx Ax kx cx hvx hwx))
          exact ⟨by kernel_rfl, isV.self _ _⟩
        refine owes2_cons (fun wx hox => ?_) ?_
        · refine withs_guardM false rfl rfl rfl ?_
          simp only [withs, List.getElem?_cons_zero, List.getElem?_cons_succ, Option.bind, Option.getD]
          repeat (first | (with_reducible refine all_isV ?_) | (with_reducible refine all_isRD ?_; intro sx Ax kx cx hvx hwx))
          exact ⟨by kernel_rfl, isV.self _ _⟩
        refine owes2_cons (fun wx hox => ?_) ?_
        · skip
          skip
          refine withs_guard rfl rfl ?_
          simp only [withs, List.getElem?_cons_zero, List.getElem?_cons_succ, Option.bind, Option.getD]
          repeat (first | (with_reducible refine all_isV ?_) | (with_reducible refine all_isRD ?_; intro sx Ax kx cx hvx hwx))
          refine ⟨by kernel_rfl, ?_⟩
          go_simp
          exact ⟨Only.refl _ _, isV.self _ _⟩
        refine owes2_cons (fun wx hox => ?_) ?_
        · skip
          skip
          refine withs_plain rfl ?_
          simp only [withs, List.getElem?_cons_zero, List.getElem?_cons_succ, Option.bind, Option.getD]
          repeat (first | (with_reducible refine all_isV ?_) | (with_reducible refine all_isRD ?_; intro sx Ax kx cx hvx hwx))
          go_simp
          exact ⟨Only.refl _ _, isV.self _ _⟩
        exact owes2_nil
      case hl =>
        repeat (refine List.forall_mem_cons.2 ⟨?_, ?_⟩; first | exact isV.lasts _ | exact isRD.lasts _)
        exact fun _ h => (by cases h)
      intro wx hox
      refine withs_of (by simp only [List.length, List.range, List.range.loop]; exact rfl) ?_
      simp only [withs, List.getElem?_cons_zero, List.getElem?_cons_succ, Option.bind, Option.getD]
      repeat (first | (with_reducible refine all_isV ?_) | (with_reducible refine all_isRD ?_; intro sx Ax kx cx hvx hwx))
      go_simp
      as_aux_lemma =>
        replace HG := Lib.hid (HG.out.step hox)
        replace HI := Lib.hid (HI.out.step hox)
        replace HR := Lib.hid (HR.out.step hox)
        clear hox
        go_upto_region 11 with fail
        apply wp_region_typed2 (by kernel_rfl) [isV _, isV _, isV _, isD vn, isV _, isV _, isV _, isRD vn, isV _, isV _] [[], [], [], [0, 1, 2], [], [], [], [4, 5, 6], [3, 7], [8]] (by kernel_rfl) (by kernel_rfl)
        case ho =>
          refine owes2_cons (fun wx hox => ?_) ?_
          · skip
            have hg := Lib.hid (HG.out.step hox)
            have hi := Lib.hid (HI.out.step hox)
            have hr := Lib.hid (HR.out.step hox)
            obtain ⟨x19_0, x19_1, x19_2⟩ := GB.c3 hg 5 rfl
            clear hg hi hr
            refine withs_plain rfl ?_
            simp only [withs, List.getElem?_cons_zero, List.getElem?_cons_succ, Option.bind, Option.getD]
            repeat (first | (with_reducible refine all_isV ?_) | (with_reducible refine all_isRD ?_; intro sx Ax kx cx hvx hwx) | (with_reducible refine all_isD ?_; intro sx Ax kx cx hvx hwx))
            go_simp
            exact ⟨Only.refl _ _, isV.self _ _⟩
          refine owes2_cons (fun wx hox => ?_) ?_
          · skip
            skip
            refine withs_plain rfl ?_
            simp only [withs, List.getElem?_cons_zero, List.getElem?_cons_succ, Option.bind, Option.getD]
            repeat (first | (with_reducible refine all_isV ?_) | (with_reducible refine all_isRD ?_; intro sx Ax kx cx hvx hwx) | (with_reducible refine all_isD ?_; intro sx Ax kx cx hvx hwx))
            go_simp
            exact ⟨Only.refl _ _, isV.self _ _⟩
          refine owes2_cons (fun wx hox => ?_) ?_
          · skip
            skip
            refine withs_plain rfl ?_
            simp only [withs, List.getElem?_cons_zero, List.getElem?_cons_succ, Option.bind, Option.getD]
            repeat (first | (with_reducible refine all_isV ?_) | (with_reducible refine all_isRD ?_; intro sx Ax kx cx hvx hwx) | (with_reducible refine all_isD ?_; intro sx Ax kx cx hvx hwx))
            go_simp
            exact ⟨Only.refl _ _, isV.self _ _⟩
          refine owes2_cons (fun wx hox => ?_) ?_
          · skip
            have hg := Lib.hid (HG.out.step hox)
            have hi := Lib.hid (HI.out.step hox)
            have hr := Lib.hid (HR.out.step hox)
            have dv_x := (WL.dv (x := x) hi 3 rfl)
            have htx := Lib.hid (hT.out.keep hg.out.only)
            clear hg hi hr
            refine withs_plain rfl ?_
            simp only [withs, List.getElem?_cons_zero, List.getElem?_cons_succ, Option.bind, Option.getD]
            repeat (first | (with_reducible refine all_isV ?_) | (with_reducible refine all_isRD ?_; intro sx Ax kx cx hvx hwx) | (with_reducible refine all_isD ?_; intro sx Ax kx cx hvx hwx))
            go_simp
            (with_reducible exact grow_d (roundV_d p dir vn Hvn.out dv_x BX (by omega) htx))
          refine owes2_cons (fun wx hox => ?_) ?_
          · skip
            have hg := Lib.hid (HG.out.step hox)
            have hi := Lib.hid (HI.out.step hox)
            have hr := Lib.hid (HR.out.step hox)
            obtain ⟨x20_0, x20_1, x20_2⟩ := GB.c3 hg 3 rfl
            clear hg hi hr
            refine withs_plain rfl ?_
            simp only [withs, List.getElem?_cons_zero, List.getElem?_cons_succ, Option.bind, Option.getD]
            repeat (first | (with_reducible refine all_isV ?_) | (with_reducible refine all_isRD ?_; intro sx Ax kx cx hvx hwx) | (with_reducible refine all_isD ?_; intro sx Ax kx cx hvx hwx))
            go_simp
            exact ⟨Only.refl _ _, isV.self _ _⟩
          refine owes2_cons (fun wx hox => ?_) ?_
          · skip
            skip
            refine withs_plain rfl ?_
            simp only [withs, List.getElem?_cons_zero, List.getElem?_cons_succ, Option.bind, Option.getD]
            repeat (first | (with_reducible refine all_isV ?_) | (with_reducible refine all_isRD ?_; intro sx Ax kx cx hvx hwx) | (with_reducible refine all_isD ?_; intro sx Ax kx cx hvx hwx))
            go_simp
            exact ⟨Only.refl _ _, isV.self _ _⟩
          refine owes2_cons (fun wx hox => ?_) ?_
          · skip
            skip
            refine withs_plain rfl ?_
            simp only [withs, List.getElem?_cons_zero, List.getElem?_cons_succ, Option.bind, Option.getD]
            repeat (first | (with_reducible refine all_isV ?_) | (with_reducible refine all_isRD ?_; intro sx Ax kx cx hvx hwx) | (with_reducible refine all_isD ?_; intro sx Ax kx cx hvx hwx))
            go_simp
            exact ⟨Only.refl _ _, isV.self _ _⟩
          refine owes2_cons (fun wx hox => ?_) ?_
          · skip
            have hg := Lib.hid (HG.out.step hox)
            have hi := Lib.hid (HI.out.step hox)
            have hr := Lib.hid (HR.out.step hox)
            have rd_rx := (RL.rd (x := rx) hr 1 rfl)
            clear hg hi hr
            refine withs_plain rfl ?_
            simp only [withs, List.getElem?_cons_zero, List.getElem?_cons_succ, Option.bind, Option.getD]
            repeat (first | (with_reducible refine all_isV ?_) | (with_reducible refine all_isRD ?_; intro sx Ax kx cx hvx hwx) | (with_reducible refine all_isD ?_; intro sx Ax kx cx hvx hwx))
            go_simp
            (with_reducible exact grow_rd (rround_d p dir vn Hrvn.out rd_rx Brx (by omega)))
          refine owes2_cons (fun wx hox => ?_) ?_
          · skip
            skip
            refine withs_plain rfl ?_
            simp only [withs, List.getElem?_cons_zero, List.getElem?_cons_succ, Option.bind, Option.getD]
            repeat (first | (with_reducible refine all_isV ?_) | (with_reducible refine all_isRD ?_; intro sx Ax kx cx hvx hwx) | (with_reducible refine all_isD ?_; intro sx Ax kx cx hvx hwx))
            go_simp
            (with_reducible exact grow_of (is3_d (x := vn) (Lib.hid (isD.of (by assumption) (by assumption))) (RD.of (by assumption) (by assumption)) Cvn Bvn (by omega)))
          refine owes2_cons (fun wx hox => ?_) ?_
          · skip
            skip
            refine withs_plain rfl ?_
            simp only [withs, List.getElem?_cons_zero, List.getElem?_cons_succ, Option.bind, Option.getD]
            repeat (first | (with_reducible refine all_isV ?_) | (with_reducible refine all_isRD ?_; intro sx Ax kx cx hvx hwx) | (with_reducible refine all_isD ?_; intro sx Ax kx cx hvx hwx))
            go_simp
            exact ⟨Only.refl _ _, isV.self _ _⟩
          exact owes2_nil
        case hl =>
          repeat (refine List.forall_mem_cons.2 ⟨?_, ?_⟩; first | exact isV.lasts _ | exact isRD.lasts _ | exact isD.lasts _)
          exact fun _ h => (by cases h)
        intro wx hox
        refine withs_of (by simp only [List.length, List.range, List.range.loop]; exact rfl) ?_
        simp only [withs, List.getElem?_cons_zero, List.getElem?_cons_succ, Option.bind, Option.getD]
        repeat (first | (with_reducible refine all_isV ?_) | (with_reducible refine all_isRD ?_; intro sx Ax kx cx hvx hwx) | (with_reducible refine all_isD ?_; intro sx Ax kx cx hvx hwx))
        go_simp
        as_aux_lemma =>
          replace HG := Lib.hid (HG.out.step hox)
          replace HI := Lib.hid (HI.out.step hox)
          replace HR := Lib.hid (HR.out.step hox)
          clear hox
          go_wp2_with fail
          go_ret
          exact ⟨rfl, HG.out.only⟩

end Go.Proofs.YtkibkmdgibemkaaGreatDoor
