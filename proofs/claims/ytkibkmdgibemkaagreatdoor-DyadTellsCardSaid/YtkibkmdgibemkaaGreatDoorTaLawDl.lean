/-
  DyadTells: the walk.
-/
import Derived.Test.YtkibkmdgibemkaaGreatDoorTaGC
import Derived.Test.YtkibkmdgibemkaaGreatDoorTaIs3
import Derived.Test.YtkibkmdgibemkaaGreatDoorTaLawDyA
import Derived.Test.YtkibkmdgibemkaaGreatDoorTaDyK
import Derived.Test.YtkibkmdgibemkaaGreatDoorTaDyN
import Derived.Test.YtkibkmdgibemkaaGreatDoorTaGRd
namespace Go.Proofs.YtkibkmdgibemkaaGreatDoor
set_option linter.unusedSimpArgs false
open Go.RowKit
theorem rrefV_d {w : World} {a : Value} {x : Dy} {N : Nat} (r : Dy) (hr : nrm x.z x.e = r) (ha : Hid (DV w a x)) (bx : Hid (Bnd N x)) (hN : N ≤ 8000000) : Calls Tryz.prog 29 #[a] w (RDP r w) := hr ▸ rref_d ha bx hN
theorem notV_d {w : World} {a : Value} {x : Dy} {N : Nat} (r : Dy) (hr : dNot x = r) (ha : Hid (DV w a x)) (hx : Hid (Bnd N x)) (hN : N ≤ 8000000) (hT : Hid (Tab6 w)) : Calls Tryz.prog 35 #[a] w (DPost r w) := hr ▸ not_d ha hx hN hT
theorem rnotV_d {w : World} {a : Value} {x : Dy} {N : Nat} (r : Dy) (hr : dNot x = r) (ha : Hid (RD w a x)) (hb : Hid (Bnd N x)) (hN : N ≤ 8000000) : Calls Tryz.prog 36 #[a] w (RDP r w) := hr ▸ rnot_d ha hb hN
theorem subV_d {w : World} {a b : Value} {x y : Dy} {N : Nat} (r : Dy) (hr : dSub x y = r) (ha : Hid (DV w a x)) (hb : Hid (DV w b y)) (hx : Hid (Bnd N x)) (hy : Hid (Bnd N y)) (hN : N ≤ 1000000) (hT : Hid (Tab6 w)) : Calls Tryz.prog 39 #[a, b] w (DPost r w) := hr ▸ sub_d ha hb hx hy hN hT
theorem makeV_d {w : World} {m : Value} {z e : Int} (r : Dy) (hr : nrm z e = r) (ha : Hid (IV w m z)) (hb : Hid (bitsN z.natAbs ≤ 16777216)) (h1 : -4000000000000000000 ≤ e) (h2 : e ≤ 4000000000000000000) (hT : Hid (Tab6 w)) : Calls Tryz.prog 45 #[m, .int .i64 e] w (DPost r w) := hr ▸ make_d ha hb h1 h2 hT
theorem raddV_d {w : World} {a b : Value} {x y : Dy} {N : Nat} (r : Dy) (hr : dAdd x y = r) (ha : Hid (RD w a x)) (hb : Hid (RD w b y)) (cx : Hid (Can x)) (cy : Hid (Can y)) (bx : Hid (Bnd N x)) (by_ : Hid (Bnd N y)) (hN : N ≤ 2000000) : Calls Tryz.prog 38 #[a, b] w (RDP r w) := hr ▸ radd_d ha hb cx cy bx by_ hN
theorem rsubV_d {w : World} {a b : Value} {x y : Dy} {N : Nat} (r : Dy) (hr : dSub x y = r) (ha : Hid (RD w a x)) (hb : Hid (RD w b y)) (cx : Hid (Can x)) (bx : Hid (Bnd N x)) (by_ : Hid (Bnd N y)) (hN : N ≤ 1000000) : Calls Tryz.prog 40 #[a, b] w (RDP r w) := hr ▸ rsub_d ha hb cx bx by_ hN
theorem rmulV_d {w : World} {a b : Value} {x y : Dy} {N : Nat} (r : Dy) (hr : dMul x y = r) (ha : Hid (RD w a x)) (hb : Hid (RD w b y)) (bx : Hid (Bnd N x)) (by_ : Hid (Bnd N y)) (hN : N ≤ 2000000) : Calls Tryz.prog 42 #[a, b] w (RDP r w) := hr ▸ rmul_d ha hb bx by_ hN
theorem rintV_d (v : Int) (r : Dy) (hr : nrm v 0 = r) (w : World) (hv : Hid (-9223372036854775808 ≤ v ∧ v ≤ 9223372036854775807)) : Calls Tryz.prog 47 #[.int .i64 v] w (RDP r w) := hr ▸ rint_d v w hv
set_option maxHeartbeats 8000000 in
set_option maxRecDepth 100000 in
theorem dtells_out (n1 n2 : Bool) (A1 A2 : Option Addr) (L1 L2 : List Nat) (c1 c2 : Nat) (e1 e2 v : Int) (w : World) (htab : Hid (Tab w)) (hT : Hid (Tab6 w)) (hl : lightN [⟨n1, A1, L1.length, c1, e1⟩, ⟨n2, A2, L2.length, c2, e2⟩] = false) :
    Calls Tryz.prog 4 #[.agg #[.bool n1, .slice A1 L1.length c1, .int .i64 e1], .agg #[.bool n2, .slice A2 L2.length c2, .int .i64 e2], .int .i64 v] w fun e w' => e = .returned (.bool true) ∧ Only [] w w' := by
  have HL := Lib.hid hl
  clear hl
  have hlv := light3_v (w := ((w.alloc (.cells #[.bool n1, .slice A1 L1.length c1, .int .i64 e1] 54)).alloc (.cells #[.bool n2, .slice A2 L2.length c2, .int .i64 e2] 54))) [⟨n1, A1, L1.length, c1, e1⟩, ⟨n2, A2, L2.length, c2, e2⟩] 2 (Lib.hid rfl) (by omega)
  rw [HL.out] at hlv
  simp only [flatN, List.flatMap_cons, List.flatMap_nil, List.cons_append, List.nil_append, World.size_alloc] at hlv
  have hk := ((GB.start w).new 54 [.bool n1, .slice A1 L1.length c1, .int .i64 e1] (noLimb3 _ _ _ _ _)).new 54 [.bool n2, .slice A2 L2.length c2, .int .i64 e2] (noLimb3 _ _ _ _ _)
  simp only [World.size_alloc] at hk
  have HG := Lib.hid hk
  have HI := Lib.hid (WL.nil ((w.alloc (.cells #[.bool n1, .slice A1 L1.length c1, .int .i64 e1] 54)).alloc (.cells #[.bool n2, .slice A2 L2.length c2, .int .i64 e2] 54)))
  have HR := Lib.hid (RL.nil ((w.alloc (.cells #[.bool n1, .slice A1 L1.length c1, .int .i64 e1] 54)).alloc (.cells #[.bool n2, .slice A2 L2.length c2, .int .i64 e2] 54)))
  have HLV := Lib.hid hlv
  clear hlv hk HL
  go_enter Tryz.func4, Tryz.ntmps4
  obtain ⟨x1_0, x1_1, x1_2⟩ := GB.c3 HG 1 rfl
  obtain ⟨x2_0, x2_1, x2_2⟩ := GB.c3 HG 0 rfl
  go_wp2_with fail
  (with_reducible refine HLV.out.mono ?_)
  rintro e w1 ⟨rfl, ho⟩
  replace HG := Lib.hid (HG.out.step ho)
  replace HI := Lib.hid (HI.out.step ho)
  replace HR := Lib.hid (HR.out.step ho)
  clear ho
  clear x1_0 x1_1 x1_2 x2_0 x2_1 x2_2
  go_wp2_with fail
  (with_reducible refine (alive3_any _ (Lib.hid (htab.out.only HG.out.only)) (Lib.hid (hT.out.keep HG.out.only))).mono ?_)
  rintro e w102 ⟨rfl, ho⟩
  replace HG := Lib.hid (HG.out.step ho)
  replace HI := Lib.hid (HI.out.step ho)
  replace HR := Lib.hid (HR.out.step ho)
  clear ho
  go_wp2_with fail
  go_ret
  exact ⟨rfl, HG.out.only⟩
set_option maxHeartbeats 8000000 in
set_option maxRecDepth 100000 in
theorem dtells_in (n1 n2 : Bool) (A1 A2 : Option Addr) (L1 L2 : List Nat) (c1 c2 : Nat) (x y rx ry vn va vs vm vo : Dy) (sx cxy tx v : Int) (w : World) (N M : Nat) (hN : N ≤ 20000) (hM : M ≤ 900000) (HZ1 : Hid (sg n1 (val L1) = x.z)) (H1 : Hid (LimbsIn w A1 L1)) (hl1 : (L1.length : Int) ≤ 40) (he1 : -3000 ≤ x.e ∧ x.e ≤ 3000) (BX : Hid (Bnd N x)) (HZ2 : Hid (sg n2 (val L2) = y.z)) (H2 : Hid (LimbsIn w A2 L2)) (hl2 : (L2.length : Int) ≤ 40) (he2 : -3000 ≤ y.e ∧ y.e ≤ 3000) (BY : Hid (Bnd N y))
    (Hrx : Hid (nrm x.z x.e = rx)) (Hry : Hid (nrm y.z y.e = ry)) (Crx : Hid (Can rx)) (Cry : Hid (Can ry)) (Brx : Hid (Bnd M rx)) (Bry : Hid (Bnd M ry)) (HBx : Hid (bitsN x.z.natAbs ≤ 16777216)) (he3 : -4000000000000000000 ≤ x.e ∧ x.e ≤ 4000000000000000000) (Hv64 : Hid (-9223372036854775808 ≤ v ∧ v ≤ 9223372036854775807))
    (Hsx : Hid (x.z.sign = sx)) (Hrsx : Hid (rx.z.sign = sx)) (Hcxy : Hid (cmpQ x.q y.q = cxy)) (Hrcxy : Hid (cmpQ rx.q ry.q = cxy)) (Htx : Hid (topD x = tx)) (Hrtx : Hid (topD rx = tx)) (Hvo : Hid (nrm v 0 = vo)) (Hvn : Hid (dNot x = vn)) (Hrvn : Hid (dNot rx = vn)) (Hva : Hid (dAdd x y = va)) (Hrva : Hid (dAdd rx ry = va)) (Hvs : Hid (dSub x y = vs)) (Hrvs : Hid (dSub rx ry = vs)) (Hvm : Hid (dMul x y = vm)) (Hrvm : Hid (dMul rx ry = vm))
    (Cvn : Hid (Can vn)) (Bvn : Hid (Bnd M vn)) (Cva : Hid (Can va)) (Bva : Hid (Bnd M va)) (Cvs : Hid (Can vs)) (Bvs : Hid (Bnd M vs)) (Cvm : Hid (Can vm)) (Bvm : Hid (Bnd M vm)) (Cvo : Hid (Can vo)) (Bvo : Hid (Bnd M vo)) (htab : Hid (Tab w)) (hT : Hid (Tab6 w)) :
    Calls Tryz.prog 4 #[.agg #[.bool n1, .slice A1 L1.length c1, .int .i64 x.e], .agg #[.bool n2, .slice A2 L2.length c2, .int .i64 y.e], .int .i64 v] w fun e w' => e = .returned (.bool true) ∧ Only [] w w' := by
  have HL : Hid (lightN [⟨n1, A1, L1.length, c1, x.e⟩, ⟨n2, A2, L2.length, c2, y.e⟩] = true) := by
    show _ = _
    simp only [lightN, List.all_cons, List.all_nil, NR.ok, Bool.and_true, Bool.and_eq_true, decide_eq_true_eq]
    omega
  have hlv := light3_v (w := ((w.alloc (.cells #[.bool n1, .slice A1 L1.length c1, .int .i64 x.e] 54)).alloc (.cells #[.bool n2, .slice A2 L2.length c2, .int .i64 y.e] 54))) [⟨n1, A1, L1.length, c1, x.e⟩, ⟨n2, A2, L2.length, c2, y.e⟩] 2 (Lib.hid rfl) (by omega)
  rw [HL.out] at hlv
  simp only [flatN, List.flatMap_cons, List.flatMap_nil, List.cons_append, List.nil_append, World.size_alloc] at hlv
  have hk := ((GB.start w).new 54 [.bool n1, .slice A1 L1.length c1, .int .i64 x.e] (noLimb3 _ _ _ _ _)).new 54 [.bool n2, .slice A2 L2.length c2, .int .i64 y.e] (noLimb3 _ _ _ _ _)
  simp only [World.size_alloc] at hk
  have HG := Lib.hid hk
  have HI := Lib.hid (WL.nil ((w.alloc (.cells #[.bool n1, .slice A1 L1.length c1, .int .i64 x.e] 54)).alloc (.cells #[.bool n2, .slice A2 L2.length c2, .int .i64 y.e] 54)))
  have HR := Lib.hid (RL.nil ((w.alloc (.cells #[.bool n1, .slice A1 L1.length c1, .int .i64 x.e] 54)).alloc (.cells #[.bool n2, .slice A2 L2.length c2, .int .i64 y.e] 54)))
  have HLV := Lib.hid hlv
  replace H1 := Lib.hid (H1.out.only hk.only)
  replace H2 := Lib.hid (H2.out.only hk.only)
  clear hlv hk HL he1 he2
  go_enter Tryz.func4, Tryz.ntmps4
  obtain ⟨x1_0, x1_1, x1_2⟩ := GB.c3 HG 1 rfl
  obtain ⟨x2_0, x2_1, x2_2⟩ := GB.c3 HG 0 rfl
  go_wp2_with fail
  (with_reducible refine HLV.out.mono ?_)
  rintro e w1 ⟨rfl, ho⟩
  replace H1 := Lib.hid (H1.out.only ho)
  replace H2 := Lib.hid (H2.out.only ho)
  replace HG := Lib.hid (HG.out.step ho)
  replace HI := Lib.hid (HI.out.step ho)
  replace HR := Lib.hid (HR.out.step ho)
  clear ho
  clear x1_0 x1_1 x1_2 x2_0 x2_1 x2_2
  go_wp2_with fail
  (with_reducible refine (alive3_any _ (Lib.hid (htab.out.only HG.out.only)) (Lib.hid (hT.out.keep HG.out.only))).mono ?_)
  rintro e w102 ⟨rfl, ho⟩
  replace H1 := Lib.hid (H1.out.only ho)
  replace H2 := Lib.hid (H2.out.only ho)
  replace HG := Lib.hid (HG.out.step ho)
  replace HI := Lib.hid (HI.out.step ho)
  replace HR := Lib.hid (HR.out.step ho)
  clear ho
  go_upto_region 3 with fail
  have hald : ∀ w : World, (Instr.alloc 59 true (.tuple #[])).run Tryz.prog w = .ok (.pointer (some ⟨w.heap.size, 0, none⟩)) (w.alloc (.cells #[.bool false, .slice none 0 0, .int .i64 0] 59)) := fun _ => by kernel_rfl
  apply wp_region_typed_tail3 6 [4, 5] 59 #[.bool false, .slice none 0 0, .int .i64 0] (by kernel_rfl) (by kernel_rfl) hald (by kernel_rfl) [isV _, isDV x, isV _, isDV y, isPtr w102 59 [.bool false, .slice none 0 0, .int .i64 0], isPtr w102 59 [.bool false, .slice none 0 0, .int .i64 0]] [[], [0], [], [2], [], []] (by kernel_rfl) (by kernel_rfl) (by kernel_rfl)
  case ho =>
    simp only [List.take_succ_cons, List.take_zero]
    refine owes2_cons (fun wx hox => ?_) ?_
    · skip
      have hg := Lib.hid (HG.out.step hox)
      have hi := Lib.hid (HI.out.step hox)
      have hr := Lib.hid (HR.out.step hox)
      obtain ⟨x3_0, x3_1, x3_2⟩ := GB.c3 hg 1 rfl
      clear hg hi hr
      refine withs_plain rfl ?_
      simp only [withs, List.getElem?_cons_zero, List.getElem?_cons_succ, Option.bind, Option.getD]
      repeat (with_reducible refine all_isV ?_)
      go_simp
      exact ⟨Only.refl _ _, isV.self _ _⟩
    refine owes2_cons (fun wx hox => ?_) ?_
    · skip
      skip
      refine withs_plain rfl ?_
      simp only [withs, List.getElem?_cons_zero, List.getElem?_cons_succ, Option.bind, Option.getD]
      repeat (with_reducible refine all_isV ?_)
      go_simp
      (with_reducible exact grow_dv (numOfV_any n1 A1 L1 c1 x _ HZ1.out (Lib.hid (H1.out.only hox)) hl1))
    refine owes2_cons (fun wx hox => ?_) ?_
    · skip
      have hg := Lib.hid (HG.out.step hox)
      have hi := Lib.hid (HI.out.step hox)
      have hr := Lib.hid (HR.out.step hox)
      obtain ⟨x4_0, x4_1, x4_2⟩ := GB.c3 hg 0 rfl
      clear hg hi hr
      refine withs_plain rfl ?_
      simp only [withs, List.getElem?_cons_zero, List.getElem?_cons_succ, Option.bind, Option.getD]
      repeat (with_reducible refine all_isV ?_)
      go_simp
      exact ⟨Only.refl _ _, isV.self _ _⟩
    refine owes2_cons (fun wx hox => ?_) ?_
    · skip
      skip
      refine withs_plain rfl ?_
      simp only [withs, List.getElem?_cons_zero, List.getElem?_cons_succ, Option.bind, Option.getD]
      repeat (with_reducible refine all_isV ?_)
      go_simp
      (with_reducible exact grow_dv (numOfV_any n2 A2 L2 c2 y _ HZ2.out (Lib.hid (H2.out.only hox)) hl2))
    refine owes2_cons (fun wx hox => ?_) ?_
    · skip
      skip
      refine withs_plain rfl ?_
      simp only [withs, List.getElem?_cons_zero, List.getElem?_cons_succ, Option.bind, Option.getD]
      repeat (with_reducible refine all_isV ?_)
      go_simp
      (exact isPtr.new hox _ _)
    refine owes2_cons (fun wx hox => ?_) ?_
    · skip
      skip
      refine withs_plain rfl ?_
      simp only [withs, List.getElem?_cons_zero, List.getElem?_cons_succ, Option.bind, Option.getD]
      repeat (with_reducible refine all_isV ?_)
      go_simp
      (exact isPtr.new hox _ _)
    exact owes2_nil
  case hl =>
    repeat (refine List.forall_mem_cons.2 ⟨?_, ?_⟩; first | exact isV.lasts _ | exact isDV.lasts _ | exact isPtr.lasts _ _ _)
    exact fun _ h => (by cases h)
  simp only [List.drop_succ_cons, List.drop_zero]
  intro wx hox
  refine withs_of (by simp only [List.length, List.range, List.range.loop]; exact rfl) ?_
  simp only [withs, List.getElem?_cons_zero, List.getElem?_cons_succ, Option.bind, Option.getD]
  with_reducible refine all_isV ?_
  with_reducible refine all_isDV ?_
  intro s1 A1 k1 c1 hv1
  with_reducible refine all_isV ?_
  with_reducible refine all_isDV ?_
  intro s3 A3 k3 c3 hv3
  with_reducible refine all_isPtr ?_
  intro g4 hb4 hg4
  with_reducible refine all_isPtr ?_
  intro g5 hb5 hg5
  go_simp
  as_aux_lemma =>
    intro hap
    have n0_1 : ¬ g4 = g5 := fun hc => hap 4 (by decide) 5 (by decide) (by decide) 7 8 rfl rfl (by rw [hc]; rfl)
    have n1_0 : ¬ g5 = g4 := fun hc => n0_1 hc.symm
    clear hap
    have bl0 := hb4.out
    have bl1 := hb5.out
    have qc0_0 := bl0.cell 0
    have qf0_0 := bl0.frozen 0
    have qc0_1 := bl0.cell 1
    have qf0_1 := bl0.frozen 1
    have qc0_2 := bl0.cell 2
    have qf0_2 := bl0.frozen 2
    have qc1_0 := bl1.cell 0
    have qf1_0 := bl1.frozen 0
    have qc1_1 := bl1.cell 1
    have qf1_1 := bl1.frozen 1
    have qc1_2 := bl1.cell 2
    have qf1_2 := bl1.frozen 2
    simp only [List.getElem?_cons_zero, List.getElem?_cons_succ] at qc0_0 qc0_1 qc0_2 qc1_0 qc1_1 qc1_2
    have hsz := HG.out.only.size
    have hga0 := hg4.out
    have ne0 := GB.apart HG.out hg4.out
    have hga1 := hg5.out
    have ne1 := GB.apart HG.out hg5.out
    have h_ := HG.out.step hox
    have i_ := HI.out.step hox
    have r_ := HR.out.step hox
    replace i_ := i_.cons hv1
    replace i_ := i_.cons hv3
    replace h_ := h_.adopt3 (u := .bool s1) (v := .slice A1 k1 c1) (x := .int .i64 x.e) bl0 (noLimb3 _ _ _ _ _) (by omega) ne0
    replace i_ := i_.far (only_set3 wx g4 (.bool s1) (.slice A1 k1 c1) (.int .i64 x.e)) bl0 (noLimb3 _ _ _ _ _)
    replace r_ := r_.far (only_set3 wx g4 (.bool s1) (.slice A1 k1 c1) (.int .i64 x.e)) bl0 (noLimb3 _ _ _ _ _)
    replace bl1 := Blk.farX bl1 (only_set3 wx g4 (.bool s1) (.slice A1 k1 c1) (.int .i64 x.e)) n1_0
    replace h_ := h_.adopt3 (u := .bool s3) (v := .slice A3 k3 c3) (x := .int .i64 y.e) bl1 (noLimb3 _ _ _ _ _) (by omega) (GB.apart1 ne1 n0_1)
    replace i_ := i_.far (only_set3 (((wx.setCell ⟨g4, 0, none⟩ (.bool s1)).setCell ⟨g4, 1, none⟩ (.slice A1 k1 c1)).setCell ⟨g4, 2, none⟩ (.int .i64 x.e)) g5 (.bool s3) (.slice A3 k3 c3) (.int .i64 y.e)) bl1 (noLimb3 _ _ _ _ _)
    replace r_ := r_.far (only_set3 (((wx.setCell ⟨g4, 0, none⟩ (.bool s1)).setCell ⟨g4, 1, none⟩ (.slice A1 k1 c1)).setCell ⟨g4, 2, none⟩ (.int .i64 x.e)) g5 (.bool s3) (.slice A3 k3 c3) (.int .i64 y.e)) bl1 (noLimb3 _ _ _ _ _)
    go_upto_region 4 with fail
    replace HG := Lib.hid h_
    replace HI := Lib.hid i_
    replace HR := Lib.hid r_
    clear h_ i_ r_ hsz hox qc0_0 qf0_0 qc0_1 qf0_1 qc0_2 qf0_2 qc1_0 qf1_0 qc1_1 qf1_1 qc1_2 qf1_2 bl0 ne0 hga0 hb4 hg4 bl1 ne1 hga1 hb5 hg5 n0_1 n1_0
    generalize (((((wx.setCell _ _).setCell _ _).setCell _ _).setCell _ _).setCell _ _).setCell _ _ = w9 at *
    generalize hgg_ : g4 = g_a at *
    clear hgg_
    generalize hgg_ : g5 = g_b at *
    clear hgg_
    clear hald H1 H2
    have halr : ∀ w : World, (Instr.alloc 62 true (.tuple #[])).run Tryz.prog w = .ok (.pointer (some ⟨w.heap.size, 0, none⟩)) (w.alloc (.cells #[.bool false, .slice none 0 0, .int .i64 0] 62)) := fun _ => by kernel_rfl
    apply wp_region_typed_tail3 6 [4, 5] 62 #[.bool false, .slice none 0 0, .int .i64 0] (by kernel_rfl) (by kernel_rfl) halr (by kernel_rfl) [isV _, isRD rx, isV _, isRD ry, isPtr w9 62 [.bool false, .slice none 0 0, .int .i64 0], isPtr w9 62 [.bool false, .slice none 0 0, .int .i64 0]] [[], [0], [], [2], [], []] (by kernel_rfl) (by kernel_rfl) (by kernel_rfl)
    case ho =>
      simp only [List.take_succ_cons, List.take_zero]
      refine owes2_cons (fun wx hox => ?_) ?_
      · skip
        have hg := Lib.hid (HG.out.step hox)
        have hi := Lib.hid (HI.out.step hox)
        have hr := Lib.hid (HR.out.step hox)
        obtain ⟨x5_0, x5_1, x5_2⟩ := GB.c3 hg 1 rfl
        clear hg hi hr
        refine withs_plain rfl ?_
        simp only [withs, List.getElem?_cons_zero, List.getElem?_cons_succ, Option.bind, Option.getD]
        repeat (first | (with_reducible refine all_isV ?_) | (with_reducible refine all_isRD ?_; intro sx Ax kx cx hvx hwx))
        go_simp
        exact ⟨Only.refl _ _, isV.self _ _⟩
      refine owes2_cons (fun wx hox => ?_) ?_
      · skip
        have hg := Lib.hid (HG.out.step hox)
        have hi := Lib.hid (HI.out.step hox)
        have hr := Lib.hid (HR.out.step hox)
        have dv_x := (WL.dv (x := x) hi 1 rfl)
        clear hg hi hr
        refine withs_plain rfl ?_
        simp only [withs, List.getElem?_cons_zero, List.getElem?_cons_succ, Option.bind, Option.getD]
        repeat (first | (with_reducible refine all_isV ?_) | (with_reducible refine all_isRD ?_; intro sx Ax kx cx hvx hwx))
        go_simp
        (with_reducible exact grow_rd (rrefV_d (x := x) rx Hrx.out dv_x BX (by omega)))
      refine owes2_cons (fun wx hox => ?_) ?_
      · skip
        have hg := Lib.hid (HG.out.step hox)
        have hi := Lib.hid (HI.out.step hox)
        have hr := Lib.hid (HR.out.step hox)
        obtain ⟨x6_0, x6_1, x6_2⟩ := GB.c3 hg 0 rfl
        clear hg hi hr
        refine withs_plain rfl ?_
        simp only [withs, List.getElem?_cons_zero, List.getElem?_cons_succ, Option.bind, Option.getD]
        repeat (first | (with_reducible refine all_isV ?_) | (with_reducible refine all_isRD ?_; intro sx Ax kx cx hvx hwx))
        go_simp
        exact ⟨Only.refl _ _, isV.self _ _⟩
      refine owes2_cons (fun wx hox => ?_) ?_
      · skip
        have hg := Lib.hid (HG.out.step hox)
        have hi := Lib.hid (HI.out.step hox)
        have hr := Lib.hid (HR.out.step hox)
        have dv_y := (WL.dv (x := y) hi 0 rfl)
        clear hg hi hr
        refine withs_plain rfl ?_
        simp only [withs, List.getElem?_cons_zero, List.getElem?_cons_succ, Option.bind, Option.getD]
        repeat (first | (with_reducible refine all_isV ?_) | (with_reducible refine all_isRD ?_; intro sx Ax kx cx hvx hwx))
        go_simp
        (with_reducible exact grow_rd (rrefV_d (x := y) ry Hry.out dv_y BY (by omega)))
      refine owes2_cons (fun wx hox => ?_) ?_
      · skip
        skip
        refine withs_plain rfl ?_
        simp only [withs, List.getElem?_cons_zero, List.getElem?_cons_succ, Option.bind, Option.getD]
        repeat (first | (with_reducible refine all_isV ?_) | (with_reducible refine all_isRD ?_; intro sx Ax kx cx hvx hwx))
        go_simp
        (exact isPtr.new hox _ _)
      refine owes2_cons (fun wx hox => ?_) ?_
      · skip
        skip
        refine withs_plain rfl ?_
        simp only [withs, List.getElem?_cons_zero, List.getElem?_cons_succ, Option.bind, Option.getD]
        repeat (first | (with_reducible refine all_isV ?_) | (with_reducible refine all_isRD ?_; intro sx Ax kx cx hvx hwx))
        go_simp
        (exact isPtr.new hox _ _)
      exact owes2_nil
    case hl =>
      repeat (refine List.forall_mem_cons.2 ⟨?_, ?_⟩; first | exact isV.lasts _ | exact isRD.lasts _ | exact isPtr.lasts _ _ _)
      exact fun _ h => (by cases h)
    simp only [List.drop_succ_cons, List.drop_zero]
    intro wx hox
    refine withs_of (by simp only [List.length, List.range, List.range.loop]; exact rfl) ?_
    simp only [withs, List.getElem?_cons_zero, List.getElem?_cons_succ, Option.bind, Option.getD]
    with_reducible refine all_isV ?_
    with_reducible refine all_isRD ?_
    intro s1 A1 k1 c1 hv1 hw1
    with_reducible refine all_isV ?_
    with_reducible refine all_isRD ?_
    intro s3 A3 k3 c3 hv3 hw3
    with_reducible refine all_isPtr ?_
    intro g4 hb4 hg4
    with_reducible refine all_isPtr ?_
    intro g5 hb5 hg5
    go_simp
    as_aux_lemma =>
      intro hap
      have n0_1 : ¬ g4 = g5 := fun hc => hap 4 (by decide) 5 (by decide) (by decide) 9 10 rfl rfl (by rw [hc]; rfl)
      have n1_0 : ¬ g5 = g4 := fun hc => n0_1 hc.symm
      clear hap
      have bl0 := hb4.out
      have bl1 := hb5.out
      have qc0_0 := bl0.cell 0
      have qf0_0 := bl0.frozen 0
      have qc0_1 := bl0.cell 1
      have qf0_1 := bl0.frozen 1
      have qc0_2 := bl0.cell 2
      have qf0_2 := bl0.frozen 2
      have qc1_0 := bl1.cell 0
      have qf1_0 := bl1.frozen 0
      have qc1_1 := bl1.cell 1
      have qf1_1 := bl1.frozen 1
      have qc1_2 := bl1.cell 2
      have qf1_2 := bl1.frozen 2
      simp only [List.getElem?_cons_zero, List.getElem?_cons_succ] at qc0_0 qc0_1 qc0_2 qc1_0 qc1_1 qc1_2
      have hsz := HG.out.only.size
      have hga0 := hg4.out
      have ne0 := GB.apart HG.out hg4.out
      have hga1 := hg5.out
      have ne1 := GB.apart HG.out hg5.out
      have h_ := HG.out.step hox
      have i_ := HI.out.step hox
      have r_ := HR.out.step hox
      replace r_ := r_.cons hv1 hw1
      replace r_ := r_.cons hv3 hw3
      replace h_ := h_.adopt3 (u := .bool s1) (v := .slice A1 k1 c1) (x := .int .i64 rx.e) bl0 (noLimb3 _ _ _ _ _) (by omega) ne0
      replace i_ := i_.far (only_set3 wx g4 (.bool s1) (.slice A1 k1 c1) (.int .i64 rx.e)) bl0 (noLimb3 _ _ _ _ _)
      replace r_ := r_.far (only_set3 wx g4 (.bool s1) (.slice A1 k1 c1) (.int .i64 rx.e)) bl0 (noLimb3 _ _ _ _ _)
      replace bl1 := Blk.farX bl1 (only_set3 wx g4 (.bool s1) (.slice A1 k1 c1) (.int .i64 rx.e)) n1_0
      replace h_ := h_.adopt3 (u := .bool s3) (v := .slice A3 k3 c3) (x := .int .i64 ry.e) bl1 (noLimb3 _ _ _ _ _) (by omega) (GB.apart1 ne1 n0_1)
      replace i_ := i_.far (only_set3 (((wx.setCell ⟨g4, 0, none⟩ (.bool s1)).setCell ⟨g4, 1, none⟩ (.slice A1 k1 c1)).setCell ⟨g4, 2, none⟩ (.int .i64 rx.e)) g5 (.bool s3) (.slice A3 k3 c3) (.int .i64 ry.e)) bl1 (noLimb3 _ _ _ _ _)
      replace r_ := r_.far (only_set3 (((wx.setCell ⟨g4, 0, none⟩ (.bool s1)).setCell ⟨g4, 1, none⟩ (.slice A1 k1 c1)).setCell ⟨g4, 2, none⟩ (.int .i64 rx.e)) g5 (.bool s3) (.slice A3 k3 c3) (.int .i64 ry.e)) bl1 (noLimb3 _ _ _ _ _)
      go_upto_region 5 with fail
      replace HG := Lib.hid h_
      replace HI := Lib.hid i_
      replace HR := Lib.hid r_
      clear h_ i_ r_ hsz hox qc0_0 qf0_0 qc0_1 qf0_1 qc0_2 qf0_2 qc1_0 qf1_0 qc1_1 qf1_1 qc1_2 qf1_2 bl0 ne0 hga0 hb4 hg4 bl1 ne1 hga1 hb5 hg5 n0_1 n1_0
      generalize (((((wx.setCell _ _).setCell _ _).setCell _ _).setCell _ _).setCell _ _).setCell _ _ = w10 at *
      generalize hgg_ : g4 = g_p at *
      clear hgg_
      generalize hgg_ : g5 = g_q at *
      clear hgg_
      clear halr
      simp only [List.append_eq, List.cons_append, List.nil_append]
      apply wp_region_typed2 (by kernel_rfl) [isV _, isV _, isV _, isV _, isV _, isV _, isV _, isV _, isV _, isV _, isV _, isV _, isV _, isV _, isV _, isV _, isD vn, isV _, isRD vn, isV _, isV _, isV _, isV _, isV _, isD va, isV _, isV _, isRD va, isV _, isV _, isV _, isV _, isV _, isD vs, isV _, isV _, isRD vs, isV _, isV _, isV _, isV _, isV _, isD vm, isV _, isV _, isRD vm, isV _, isV _, isV _, isV _, isV _, isV _, isV _, isV _, isV _, isV _, isV _, isV _, isV _, isV _, isD rx, isRD rx, isV _, isV _, isV _, isV _, isD vo, isV _, isRD vo, isV _, isV _, isV _] [[], [0], [], [2], [1, 3], [4], [5], [5], [5, 6, 7], [5], [5], [5, 9, 10], [5, 8, 11], [5, 12], [13], [14], [14, 15], [14], [14, 17], [14, 16, 18], [14, 19], [20], [21], [21], [21, 22, 23], [21], [21], [21, 25, 26], [21, 24, 27], [21, 28], [29], [30], [30], [30, 31, 32], [30], [30], [30, 34, 35], [30, 33, 36], [30, 37], [38], [39], [39], [39, 40, 41], [39], [39], [39, 43, 44], [39, 42, 45], [39, 46], [47], [48], [48, 49], [48], [48, 51], [48, 50, 52], [48, 53], [54], [55], [55, 56], [55], [55, 58], [55, 57, 59], [55], [55, 60, 61], [55, 62], [63], [64], [64, 65], [64], [64, 67], [64, 66, 68], [64, 69], [70]] (by kernel_rfl) (by kernel_rfl)
      case ho =>
        refine owes2_cons (fun wx hox => ?_) ?_
        · skip
          have hg := Lib.hid (HG.out.step hox)
          have hi := Lib.hid (HI.out.step hox)
          have hr := Lib.hid (HR.out.step hox)
          obtain ⟨x7_0, x7_1, x7_2⟩ := GB.c3 hg 3 rfl
          clear hg hi hr
          refine withs_plain rfl ?_
          simp only [withs, List.getElem?_cons_zero, List.getElem?_cons_succ, Option.bind, Option.getD]
          repeat (first | (with_reducible refine all_isV ?_) | (with_reducible refine all_isRD ?_; intro sx Ax kx cx hvx hwx) | (with_reducible refine all_isD ?_; intro sx Ax kx cx hvx hwx))
          go_simp
          exact ⟨Only.refl _ _, isV.self _ _⟩
        refine owes2_cons (fun wx hox => ?_) ?_
        · skip
          have hg := Lib.hid (HG.out.step hox)
          have hi := Lib.hid (HI.out.step hox)
          have hr := Lib.hid (HR.out.step hox)
          have dv_x := (WL.dv (x := x) hi 1 rfl)
          clear hg hi hr
          refine withs_plain rfl ?_
          simp only [withs, List.getElem?_cons_zero, List.getElem?_cons_succ, Option.bind, Option.getD]
          repeat (first | (with_reducible refine all_isV ?_) | (with_reducible refine all_isRD ?_; intro sx Ax kx cx hvx hwx) | (with_reducible refine all_isD ?_; intro sx Ax kx cx hvx hwx))
          go_simp
          (with_reducible exact grow_of (signV_d (x := x) sx dv_x Hsx.out))
        refine owes2_cons (fun wx hox => ?_) ?_
        · skip
          have hg := Lib.hid (HG.out.step hox)
          have hi := Lib.hid (HI.out.step hox)
          have hr := Lib.hid (HR.out.step hox)
          obtain ⟨x8_0, x8_1, x8_2⟩ := GB.c3 hg 1 rfl
          clear hg hi hr
          refine withs_plain rfl ?_
          simp only [withs, List.getElem?_cons_zero, List.getElem?_cons_succ, Option.bind, Option.getD]
          repeat (first | (with_reducible refine all_isV ?_) | (with_reducible refine all_isRD ?_; intro sx Ax kx cx hvx hwx) | (with_reducible refine all_isD ?_; intro sx Ax kx cx hvx hwx))
          go_simp
          exact ⟨Only.refl _ _, isV.self _ _⟩
        refine owes2_cons (fun wx hox => ?_) ?_
        · skip
          have hg := Lib.hid (HG.out.step hox)
          have hi := Lib.hid (HI.out.step hox)
          have hr := Lib.hid (HR.out.step hox)
          have rd_rx := (RL.rd (x := rx) hr 1 rfl)
          clear hg hi hr
          refine withs_plain rfl ?_
          simp only [withs, List.getElem?_cons_zero, List.getElem?_cons_succ, Option.bind, Option.getD]
          repeat (first | (with_reducible refine all_isV ?_) | (with_reducible refine all_isRD ?_; intro sx Ax kx cx hvx hwx) | (with_reducible refine all_isD ?_; intro sx Ax kx cx hvx hwx))
          go_simp
          (with_reducible exact grow_of (rsign_d sx rd_rx Hrsx.out))
        refine owes2_cons (fun wx hox => ?_) ?_
        · skip
          skip
          refine withs_plain rfl ?_
          simp only [withs, List.getElem?_cons_zero, List.getElem?_cons_succ, Option.bind, Option.getD]
          repeat (first | (with_reducible refine all_isV ?_) | (with_reducible refine all_isRD ?_; intro sx Ax kx cx hvx hwx) | (with_reducible refine all_isD ?_; intro sx Ax kx cx hvx hwx))
          go_simp
          exact ⟨Only.refl _ _, isV.self _ _⟩
        refine owes2_cons (fun wx hox => ?_) ?_
        · skip
          skip
          refine withs_plain rfl ?_
          simp only [withs, List.getElem?_cons_zero, List.getElem?_cons_succ, Option.bind, Option.getD]
          repeat (first | (with_reducible refine all_isV ?_) | (with_reducible refine all_isRD ?_; intro sx Ax kx cx hvx hwx) | (with_reducible refine all_isD ?_; intro sx Ax kx cx hvx hwx))
          go_simp
          exact ⟨Only.refl _ _, isV.self _ _⟩
        refine owes2_cons (fun wx hox => ?_) ?_
        · skip
          have hg := Lib.hid (HG.out.step hox)
          have hi := Lib.hid (HI.out.step hox)
          have hr := Lib.hid (HR.out.step hox)
          obtain ⟨x9_0, x9_1, x9_2⟩ := GB.c3 hg 3 rfl
          clear hg hi hr
          refine withs_guard rfl rfl ?_
          simp only [withs, List.getElem?_cons_zero, List.getElem?_cons_succ, Option.bind, Option.getD]
          repeat (first | (with_reducible refine all_isV ?_) | (with_reducible refine all_isRD ?_; intro sx Ax kx cx hvx hwx) | (with_reducible refine all_isD ?_; intro sx Ax kx cx hvx hwx))
          refine ⟨by kernel_rfl, ?_⟩
          go_simp
          exact ⟨Only.refl _ _, isV.self _ _⟩
        refine owes2_cons (fun wx hox => ?_) ?_
        · skip
          have hg := Lib.hid (HG.out.step hox)
          have hi := Lib.hid (HI.out.step hox)
          have hr := Lib.hid (HR.out.step hox)
          obtain ⟨x10_0, x10_1, x10_2⟩ := GB.c3 hg 2 rfl
          clear hg hi hr
          refine withs_guard rfl rfl ?_
          simp only [withs, List.getElem?_cons_zero, List.getElem?_cons_succ, Option.bind, Option.getD]
          repeat (first | (with_reducible refine all_isV ?_) | (with_reducible refine all_isRD ?_; intro sx Ax kx cx hvx hwx) | (with_reducible refine all_isD ?_; intro sx Ax kx cx hvx hwx))
          refine ⟨by kernel_rfl, ?_⟩
          go_simp
          exact ⟨Only.refl _ _, isV.self _ _⟩
        refine owes2_cons (fun wx hox => ?_) ?_
        · skip
          have hg := Lib.hid (HG.out.step hox)
          have hi := Lib.hid (HI.out.step hox)
          have hr := Lib.hid (HR.out.step hox)
          have dv_x := (WL.dv (x := x) hi 1 rfl)
          have dv_y := (WL.dv (x := y) hi 0 rfl)
          clear hg hi hr
          refine withs_guard rfl rfl ?_
          simp only [withs, List.getElem?_cons_zero, List.getElem?_cons_succ, Option.bind, Option.getD]
          repeat (first | (with_reducible refine all_isV ?_) | (with_reducible refine all_isRD ?_; intro sx Ax kx cx hvx hwx) | (with_reducible refine all_isD ?_; intro sx Ax kx cx hvx hwx))
          refine ⟨by kernel_rfl, ?_⟩
          go_simp
          (with_reducible exact grow_of (cmpV_d (x := x) (y := y) cxy dv_x dv_y BX BY (by omega) Hcxy.out))
        refine owes2_cons (fun wx hox => ?_) ?_
        · skip
          have hg := Lib.hid (HG.out.step hox)
          have hi := Lib.hid (HI.out.step hox)
          have hr := Lib.hid (HR.out.step hox)
          obtain ⟨x11_0, x11_1, x11_2⟩ := GB.c3 hg 1 rfl
          clear hg hi hr
          refine withs_guard rfl rfl ?_
          simp only [withs, List.getElem?_cons_zero, List.getElem?_cons_succ, Option.bind, Option.getD]
          repeat (first | (with_reducible refine all_isV ?_) | (with_reducible refine all_isRD ?_; intro sx Ax kx cx hvx hwx) | (with_reducible refine all_isD ?_; intro sx Ax kx cx hvx hwx))
          refine ⟨by kernel_rfl, ?_⟩
          go_simp
          exact ⟨Only.refl _ _, isV.self _ _⟩
        refine owes2_cons (fun wx hox => ?_) ?_
        · skip
          have hg := Lib.hid (HG.out.step hox)
          have hi := Lib.hid (HI.out.step hox)
          have hr := Lib.hid (HR.out.step hox)
          obtain ⟨x12_0, x12_1, x12_2⟩ := GB.c3 hg 0 rfl
          clear hg hi hr
          refine withs_guard rfl rfl ?_
          simp only [withs, List.getElem?_cons_zero, List.getElem?_cons_succ, Option.bind, Option.getD]
          repeat (first | (with_reducible refine all_isV ?_) | (with_reducible refine all_isRD ?_; intro sx Ax kx cx hvx hwx) | (with_reducible refine all_isD ?_; intro sx Ax kx cx hvx hwx))
          refine ⟨by kernel_rfl, ?_⟩
          go_simp
          exact ⟨Only.refl _ _, isV.self _ _⟩
        refine owes2_cons (fun wx hox => ?_) ?_
        · skip
          have hg := Lib.hid (HG.out.step hox)
          have hi := Lib.hid (HI.out.step hox)
          have hr := Lib.hid (HR.out.step hox)
          have rd_rx := (RL.rd (x := rx) hr 1 rfl)
          have rd_ry := (RL.rd (x := ry) hr 0 rfl)
          clear hg hi hr
          refine withs_guard rfl rfl ?_
          simp only [withs, List.getElem?_cons_zero, List.getElem?_cons_succ, Option.bind, Option.getD]
          repeat (first | (with_reducible refine all_isV ?_) | (with_reducible refine all_isRD ?_; intro sx Ax kx cx hvx hwx) | (with_reducible refine all_isD ?_; intro sx Ax kx cx hvx hwx))
          refine ⟨by kernel_rfl, ?_⟩
          go_simp
          (with_reducible exact grow_of (rcmp_d (x := rx) (y := ry) cxy rd_rx rd_ry Crx Brx Bry (by omega) Hrcxy.out))
        refine owes2_cons (fun wx hox => ?_) ?_
        · skip
          skip
          refine withs_guard rfl rfl ?_
          simp only [withs, List.getElem?_cons_zero, List.getElem?_cons_succ, Option.bind, Option.getD]
          repeat (first | (with_reducible refine all_isV ?_) | (with_reducible refine all_isRD ?_; intro sx Ax kx cx hvx hwx) | (with_reducible refine all_isD ?_; intro sx Ax kx cx hvx hwx))
          refine ⟨by kernel_rfl, ?_⟩
          go_simp
          exact ⟨Only.refl _ _, isV.self _ _⟩
        refine owes2_cons (fun wx hox => ?_) ?_
        · skip
          skip
          refine withs_plain rfl ?_
          simp only [withs, List.getElem?_cons_zero, List.getElem?_cons_succ, Option.bind, Option.getD]
          repeat (first | (with_reducible refine all_isV ?_) | (with_reducible refine all_isRD ?_; intro sx Ax kx cx hvx hwx) | (with_reducible refine all_isD ?_; intro sx Ax kx cx hvx hwx))
          go_simp
          exact ⟨Only.refl _ _, isV.self _ _⟩
        refine owes2_cons (fun wx hox => ?_) ?_
        · skip
          skip
          refine withs_plain rfl ?_
          simp only [withs, List.getElem?_cons_zero, List.getElem?_cons_succ, Option.bind, Option.getD]
          repeat (first | (with_reducible refine all_isV ?_) | (with_reducible refine all_isRD ?_; intro sx Ax kx cx hvx hwx) | (with_reducible refine all_isD ?_; intro sx Ax kx cx hvx hwx))
          go_simp
          exact ⟨Only.refl _ _, isV.self _ _⟩
        refine owes2_cons (fun wx hox => ?_) ?_
        · skip
          have hg := Lib.hid (HG.out.step hox)
          have hi := Lib.hid (HI.out.step hox)
          have hr := Lib.hid (HR.out.step hox)
          obtain ⟨x13_0, x13_1, x13_2⟩ := GB.c3 hg 3 rfl
          clear hg hi hr
          refine withs_guard rfl rfl ?_
          simp only [withs, List.getElem?_cons_zero, List.getElem?_cons_succ, Option.bind, Option.getD]
          repeat (first | (with_reducible refine all_isV ?_) | (with_reducible refine all_isRD ?_; intro sx Ax kx cx hvx hwx) | (with_reducible refine all_isD ?_; intro sx Ax kx cx hvx hwx))
          refine ⟨by kernel_rfl, ?_⟩
          go_simp
          exact ⟨Only.refl _ _, isV.self _ _⟩
        refine owes2_cons (fun wx hox => ?_) ?_
        · skip
          have hg := Lib.hid (HG.out.step hox)
          have hi := Lib.hid (HI.out.step hox)
          have hr := Lib.hid (HR.out.step hox)
          have dv_x := (WL.dv (x := x) hi 1 rfl)
          have htx := Lib.hid (hT.out.keep hg.out.only)
          clear hg hi hr
          refine withs_guard rfl rfl ?_
          simp only [withs, List.getElem?_cons_zero, List.getElem?_cons_succ, Option.bind, Option.getD]
          repeat (first | (with_reducible refine all_isV ?_) | (with_reducible refine all_isRD ?_; intro sx Ax kx cx hvx hwx) | (with_reducible refine all_isD ?_; intro sx Ax kx cx hvx hwx))
          refine ⟨by kernel_rfl, ?_⟩
          go_simp
          (with_reducible exact grow_d (notV_d vn Hvn.out dv_x BX (by omega) htx))
        refine owes2_cons (fun wx hox => ?_) ?_
        · skip
          have hg := Lib.hid (HG.out.step hox)
          have hi := Lib.hid (HI.out.step hox)
          have hr := Lib.hid (HR.out.step hox)
          obtain ⟨x14_0, x14_1, x14_2⟩ := GB.c3 hg 1 rfl
          clear hg hi hr
          refine withs_guard rfl rfl ?_
          simp only [withs, List.getElem?_cons_zero, List.getElem?_cons_succ, Option.bind, Option.getD]
          repeat (first | (with_reducible refine all_isV ?_) | (with_reducible refine all_isRD ?_; intro sx Ax kx cx hvx hwx) | (with_reducible refine all_isD ?_; intro sx Ax kx cx hvx hwx))
          refine ⟨by kernel_rfl, ?_⟩
          go_simp
          exact ⟨Only.refl _ _, isV.self _ _⟩
        refine owes2_cons (fun wx hox => ?_) ?_
        · skip
          have hg := Lib.hid (HG.out.step hox)
          have hi := Lib.hid (HI.out.step hox)
          have hr := Lib.hid (HR.out.step hox)
          have rd_rx := (RL.rd (x := rx) hr 1 rfl)
          clear hg hi hr
          refine withs_guard rfl rfl ?_
          simp only [withs, List.getElem?_cons_zero, List.getElem?_cons_succ, Option.bind, Option.getD]
          repeat (first | (with_reducible refine all_isV ?_) | (with_reducible refine all_isRD ?_; intro sx Ax kx cx hvx hwx) | (with_reducible refine all_isD ?_; intro sx Ax kx cx hvx hwx))
          refine ⟨by kernel_rfl, ?_⟩
          go_simp
          (with_reducible exact grow_rd (rnotV_d vn Hrvn.out rd_rx Brx (by omega)))
        refine owes2_cons (fun wx hox => ?_) ?_
        · skip
          skip
          refine withs_guard rfl rfl ?_
          simp only [withs, List.getElem?_cons_zero, List.getElem?_cons_succ, Option.bind, Option.getD]
          repeat (first | (with_reducible refine all_isV ?_) | (with_reducible refine all_isRD ?_; intro sx Ax kx cx hvx hwx) | (with_reducible refine all_isD ?_; intro sx Ax kx cx hvx hwx))
          refine ⟨by kernel_rfl, ?_⟩
          go_simp
          (with_reducible exact grow_of (is3_d (x := vn) (Lib.hid (isD.of (by assumption) (by assumption))) (RD.of (by assumption) (by assumption)) Cvn Bvn (by omega)))
        refine owes2_cons (fun wx hox => ?_) ?_
        · skip
          skip
          refine withs_plain rfl ?_
          simp only [withs, List.getElem?_cons_zero, List.getElem?_cons_succ, Option.bind, Option.getD]
          repeat (first | (with_reducible refine all_isV ?_) | (with_reducible refine all_isRD ?_; intro sx Ax kx cx hvx hwx) | (with_reducible refine all_isD ?_; intro sx Ax kx cx hvx hwx))
          go_simp
          exact ⟨Only.refl _ _, isV.self _ _⟩
        refine owes2_cons (fun wx hox => ?_) ?_
        · skip
          skip
          refine withs_plain rfl ?_
          simp only [withs, List.getElem?_cons_zero, List.getElem?_cons_succ, Option.bind, Option.getD]
          repeat (first | (with_reducible refine all_isV ?_) | (with_reducible refine all_isRD ?_; intro sx Ax kx cx hvx hwx) | (with_reducible refine all_isD ?_; intro sx Ax kx cx hvx hwx))
          go_simp
          exact ⟨Only.refl _ _, isV.self _ _⟩
        refine owes2_cons (fun wx hox => ?_) ?_
        · skip
          have hg := Lib.hid (HG.out.step hox)
          have hi := Lib.hid (HI.out.step hox)
          have hr := Lib.hid (HR.out.step hox)
          obtain ⟨x15_0, x15_1, x15_2⟩ := GB.c3 hg 3 rfl
          clear hg hi hr
          refine withs_guard rfl rfl ?_
          simp only [withs, List.getElem?_cons_zero, List.getElem?_cons_succ, Option.bind, Option.getD]
          repeat (first | (with_reducible refine all_isV ?_) | (with_reducible refine all_isRD ?_; intro sx Ax kx cx hvx hwx) | (with_reducible refine all_isD ?_; intro sx Ax kx cx hvx hwx))
          refine ⟨by kernel_rfl, ?_⟩
          go_simp
          exact ⟨Only.refl _ _, isV.self _ _⟩
        refine owes2_cons (fun wx hox => ?_) ?_
        · skip
          have hg := Lib.hid (HG.out.step hox)
          have hi := Lib.hid (HI.out.step hox)
          have hr := Lib.hid (HR.out.step hox)
          obtain ⟨x16_0, x16_1, x16_2⟩ := GB.c3 hg 2 rfl
          clear hg hi hr
          refine withs_guard rfl rfl ?_
          simp only [withs, List.getElem?_cons_zero, List.getElem?_cons_succ, Option.bind, Option.getD]
          repeat (first | (with_reducible refine all_isV ?_) | (with_reducible refine all_isRD ?_; intro sx Ax kx cx hvx hwx) | (with_reducible refine all_isD ?_; intro sx Ax kx cx hvx hwx))
          refine ⟨by kernel_rfl, ?_⟩
          go_simp
          exact ⟨Only.refl _ _, isV.self _ _⟩
        refine owes2_cons (fun wx hox => ?_) ?_
        · skip
          have hg := Lib.hid (HG.out.step hox)
          have hi := Lib.hid (HI.out.step hox)
          have hr := Lib.hid (HR.out.step hox)
          have dv_x := (WL.dv (x := x) hi 1 rfl)
          have dv_y := (WL.dv (x := y) hi 0 rfl)
          have htx := Lib.hid (hT.out.keep hg.out.only)
          clear hg hi hr
          refine withs_guard rfl rfl ?_
          simp only [withs, List.getElem?_cons_zero, List.getElem?_cons_succ, Option.bind, Option.getD]
          repeat (first | (with_reducible refine all_isV ?_) | (with_reducible refine all_isRD ?_; intro sx Ax kx cx hvx hwx) | (with_reducible refine all_isD ?_; intro sx Ax kx cx hvx hwx))
          refine ⟨by kernel_rfl, ?_⟩
          go_simp
          (with_reducible exact grow_d (addV_d va Hva.out dv_x dv_y BX BY (by omega) htx))
        refine owes2_cons (fun wx hox => ?_) ?_
        · skip
          have hg := Lib.hid (HG.out.step hox)
          have hi := Lib.hid (HI.out.step hox)
          have hr := Lib.hid (HR.out.step hox)
          obtain ⟨x17_0, x17_1, x17_2⟩ := GB.c3 hg 1 rfl
          clear hg hi hr
          refine withs_guard rfl rfl ?_
          simp only [withs, List.getElem?_cons_zero, List.getElem?_cons_succ, Option.bind, Option.getD]
          repeat (first | (with_reducible refine all_isV ?_) | (with_reducible refine all_isRD ?_; intro sx Ax kx cx hvx hwx) | (with_reducible refine all_isD ?_; intro sx Ax kx cx hvx hwx))
          refine ⟨by kernel_rfl, ?_⟩
          go_simp
          exact ⟨Only.refl _ _, isV.self _ _⟩
        refine owes2_cons (fun wx hox => ?_) ?_
        · skip
          have hg := Lib.hid (HG.out.step hox)
          have hi := Lib.hid (HI.out.step hox)
          have hr := Lib.hid (HR.out.step hox)
          obtain ⟨x18_0, x18_1, x18_2⟩ := GB.c3 hg 0 rfl
          clear hg hi hr
          refine withs_guard rfl rfl ?_
          simp only [withs, List.getElem?_cons_zero, List.getElem?_cons_succ, Option.bind, Option.getD]
          repeat (first | (with_reducible refine all_isV ?_) | (with_reducible refine all_isRD ?_; intro sx Ax kx cx hvx hwx) | (with_reducible refine all_isD ?_; intro sx Ax kx cx hvx hwx))
          refine ⟨by kernel_rfl, ?_⟩
          go_simp
          exact ⟨Only.refl _ _, isV.self _ _⟩
        refine owes2_cons (fun wx hox => ?_) ?_
        · skip
          have hg := Lib.hid (HG.out.step hox)
          have hi := Lib.hid (HI.out.step hox)
          have hr := Lib.hid (HR.out.step hox)
          have rd_rx := (RL.rd (x := rx) hr 1 rfl)
          have rd_ry := (RL.rd (x := ry) hr 0 rfl)
          clear hg hi hr
          refine withs_guard rfl rfl ?_
          simp only [withs, List.getElem?_cons_zero, List.getElem?_cons_succ, Option.bind, Option.getD]
          repeat (first | (with_reducible refine all_isV ?_) | (with_reducible refine all_isRD ?_; intro sx Ax kx cx hvx hwx) | (with_reducible refine all_isD ?_; intro sx Ax kx cx hvx hwx))
          refine ⟨by kernel_rfl, ?_⟩
          go_simp
          (with_reducible exact grow_rd (raddV_d va Hrva.out rd_rx rd_ry Crx Cry Brx Bry (by omega)))
        refine owes2_cons (fun wx hox => ?_) ?_
        · skip
          skip
          refine withs_guard rfl rfl ?_
          simp only [withs, List.getElem?_cons_zero, List.getElem?_cons_succ, Option.bind, Option.getD]
          repeat (first | (with_reducible refine all_isV ?_) | (with_reducible refine all_isRD ?_; intro sx Ax kx cx hvx hwx) | (with_reducible refine all_isD ?_; intro sx Ax kx cx hvx hwx))
          refine ⟨by kernel_rfl, ?_⟩
          go_simp
          (with_reducible exact grow_of (is3_d (x := va) (Lib.hid (isD.of (by assumption) (by assumption))) (RD.of (by assumption) (by assumption)) Cva Bva (by omega)))
        refine owes2_cons (fun wx hox => ?_) ?_
        · skip
          skip
          refine withs_plain rfl ?_
          simp only [withs, List.getElem?_cons_zero, List.getElem?_cons_succ, Option.bind, Option.getD]
          repeat (first | (with_reducible refine all_isV ?_) | (with_reducible refine all_isRD ?_; intro sx Ax kx cx hvx hwx) | (with_reducible refine all_isD ?_; intro sx Ax kx cx hvx hwx))
          go_simp
          exact ⟨Only.refl _ _, isV.self _ _⟩
        refine owes2_cons (fun wx hox => ?_) ?_
        · skip
          skip
          refine withs_plain rfl ?_
          simp only [withs, List.getElem?_cons_zero, List.getElem?_cons_succ, Option.bind, Option.getD]
          repeat (first | (with_reducible refine all_isV ?_) | (with_reducible refine all_isRD ?_; intro sx Ax kx cx hvx hwx) | (with_reducible refine all_isD ?_; intro sx Ax kx cx hvx hwx))
          go_simp
          exact ⟨Only.refl _ _, isV.self _ _⟩
        refine owes2_cons (fun wx hox => ?_) ?_
        · skip
          have hg := Lib.hid (HG.out.step hox)
          have hi := Lib.hid (HI.out.step hox)
          have hr := Lib.hid (HR.out.step hox)
          obtain ⟨x19_0, x19_1, x19_2⟩ := GB.c3 hg 3 rfl
          clear hg hi hr
          refine withs_guard rfl rfl ?_
          simp only [withs, List.getElem?_cons_zero, List.getElem?_cons_succ, Option.bind, Option.getD]
          repeat (first | (with_reducible refine all_isV ?_) | (with_reducible refine all_isRD ?_; intro sx Ax kx cx hvx hwx) | (with_reducible refine all_isD ?_; intro sx Ax kx cx hvx hwx))
          refine ⟨by kernel_rfl, ?_⟩
          go_simp
          exact ⟨Only.refl _ _, isV.self _ _⟩
        refine owes2_cons (fun wx hox => ?_) ?_
        · skip
          have hg := Lib.hid (HG.out.step hox)
          have hi := Lib.hid (HI.out.step hox)
          have hr := Lib.hid (HR.out.step hox)
          obtain ⟨x20_0, x20_1, x20_2⟩ := GB.c3 hg 2 rfl
          clear hg hi hr
          refine withs_guard rfl rfl ?_
          simp only [withs, List.getElem?_cons_zero, List.getElem?_cons_succ, Option.bind, Option.getD]
          repeat (first | (with_reducible refine all_isV ?_) | (with_reducible refine all_isRD ?_; intro sx Ax kx cx hvx hwx) | (with_reducible refine all_isD ?_; intro sx Ax kx cx hvx hwx))
          refine ⟨by kernel_rfl, ?_⟩
          go_simp
          exact ⟨Only.refl _ _, isV.self _ _⟩
        refine owes2_cons (fun wx hox => ?_) ?_
        · skip
          have hg := Lib.hid (HG.out.step hox)
          have hi := Lib.hid (HI.out.step hox)
          have hr := Lib.hid (HR.out.step hox)
          have dv_x := (WL.dv (x := x) hi 1 rfl)
          have dv_y := (WL.dv (x := y) hi 0 rfl)
          have htx := Lib.hid (hT.out.keep hg.out.only)
          clear hg hi hr
          refine withs_guard rfl rfl ?_
          simp only [withs, List.getElem?_cons_zero, List.getElem?_cons_succ, Option.bind, Option.getD]
          repeat (first | (with_reducible refine all_isV ?_) | (with_reducible refine all_isRD ?_; intro sx Ax kx cx hvx hwx) | (with_reducible refine all_isD ?_; intro sx Ax kx cx hvx hwx))
          refine ⟨by kernel_rfl, ?_⟩
          go_simp
          (with_reducible exact grow_d (subV_d vs Hvs.out dv_x dv_y BX BY (by omega) htx))
        refine owes2_cons (fun wx hox => ?_) ?_
        · skip
          have hg := Lib.hid (HG.out.step hox)
          have hi := Lib.hid (HI.out.step hox)
          have hr := Lib.hid (HR.out.step hox)
          obtain ⟨x21_0, x21_1, x21_2⟩ := GB.c3 hg 1 rfl
          clear hg hi hr
          refine withs_guard rfl rfl ?_
          simp only [withs, List.getElem?_cons_zero, List.getElem?_cons_succ, Option.bind, Option.getD]
          repeat (first | (with_reducible refine all_isV ?_) | (with_reducible refine all_isRD ?_; intro sx Ax kx cx hvx hwx) | (with_reducible refine all_isD ?_; intro sx Ax kx cx hvx hwx))
          refine ⟨by kernel_rfl, ?_⟩
          go_simp
          exact ⟨Only.refl _ _, isV.self _ _⟩
        refine owes2_cons (fun wx hox => ?_) ?_
        · skip
          have hg := Lib.hid (HG.out.step hox)
          have hi := Lib.hid (HI.out.step hox)
          have hr := Lib.hid (HR.out.step hox)
          obtain ⟨x22_0, x22_1, x22_2⟩ := GB.c3 hg 0 rfl
          clear hg hi hr
          refine withs_guard rfl rfl ?_
          simp only [withs, List.getElem?_cons_zero, List.getElem?_cons_succ, Option.bind, Option.getD]
          repeat (first | (with_reducible refine all_isV ?_) | (with_reducible refine all_isRD ?_; intro sx Ax kx cx hvx hwx) | (with_reducible refine all_isD ?_; intro sx Ax kx cx hvx hwx))
          refine ⟨by kernel_rfl, ?_⟩
          go_simp
          exact ⟨Only.refl _ _, isV.self _ _⟩
        refine owes2_cons (fun wx hox => ?_) ?_
        · skip
          have hg := Lib.hid (HG.out.step hox)
          have hi := Lib.hid (HI.out.step hox)
          have hr := Lib.hid (HR.out.step hox)
          have rd_rx := (RL.rd (x := rx) hr 1 rfl)
          have rd_ry := (RL.rd (x := ry) hr 0 rfl)
          clear hg hi hr
          refine withs_guard rfl rfl ?_
          simp only [withs, List.getElem?_cons_zero, List.getElem?_cons_succ, Option.bind, Option.getD]
          repeat (first | (with_reducible refine all_isV ?_) | (with_reducible refine all_isRD ?_; intro sx Ax kx cx hvx hwx) | (with_reducible refine all_isD ?_; intro sx Ax kx cx hvx hwx))
          refine ⟨by kernel_rfl, ?_⟩
          go_simp
          (with_reducible exact grow_rd (rsubV_d vs Hrvs.out rd_rx rd_ry Crx Brx Bry (by omega)))
        refine owes2_cons (fun wx hox => ?_) ?_
        · skip
          skip
          refine withs_guard rfl rfl ?_
          simp only [withs, List.getElem?_cons_zero, List.getElem?_cons_succ, Option.bind, Option.getD]
          repeat (first | (with_reducible refine all_isV ?_) | (with_reducible refine all_isRD ?_; intro sx Ax kx cx hvx hwx) | (with_reducible refine all_isD ?_; intro sx Ax kx cx hvx hwx))
          refine ⟨by kernel_rfl, ?_⟩
          go_simp
          (with_reducible exact grow_of (is3_d (x := vs) (Lib.hid (isD.of (by assumption) (by assumption))) (RD.of (by assumption) (by assumption)) Cvs Bvs (by omega)))
        refine owes2_cons (fun wx hox => ?_) ?_
        · skip
          skip
          refine withs_plain rfl ?_
          simp only [withs, List.getElem?_cons_zero, List.getElem?_cons_succ, Option.bind, Option.getD]
          repeat (first | (with_reducible refine all_isV ?_) | (with_reducible refine all_isRD ?_; intro sx Ax kx cx hvx hwx) | (with_reducible refine all_isD ?_; intro sx Ax kx cx hvx hwx))
          go_simp
          exact ⟨Only.refl _ _, isV.self _ _⟩
        refine owes2_cons (fun wx hox => ?_) ?_
        · skip
          skip
          refine withs_plain rfl ?_
          simp only [withs, List.getElem?_cons_zero, List.getElem?_cons_succ, Option.bind, Option.getD]
          repeat (first | (with_reducible refine all_isV ?_) | (with_reducible refine all_isRD ?_; intro sx Ax kx cx hvx hwx) | (with_reducible refine all_isD ?_; intro sx Ax kx cx hvx hwx))
          go_simp
          exact ⟨Only.refl _ _, isV.self _ _⟩
        refine owes2_cons (fun wx hox => ?_) ?_
        · skip
          have hg := Lib.hid (HG.out.step hox)
          have hi := Lib.hid (HI.out.step hox)
          have hr := Lib.hid (HR.out.step hox)
          obtain ⟨x23_0, x23_1, x23_2⟩ := GB.c3 hg 3 rfl
          clear hg hi hr
          refine withs_guard rfl rfl ?_
          simp only [withs, List.getElem?_cons_zero, List.getElem?_cons_succ, Option.bind, Option.getD]
          repeat (first | (with_reducible refine all_isV ?_) | (with_reducible refine all_isRD ?_; intro sx Ax kx cx hvx hwx) | (with_reducible refine all_isD ?_; intro sx Ax kx cx hvx hwx))
          refine ⟨by kernel_rfl, ?_⟩
          go_simp
          exact ⟨Only.refl _ _, isV.self _ _⟩
        refine owes2_cons (fun wx hox => ?_) ?_
        · skip
          have hg := Lib.hid (HG.out.step hox)
          have hi := Lib.hid (HI.out.step hox)
          have hr := Lib.hid (HR.out.step hox)
          obtain ⟨x24_0, x24_1, x24_2⟩ := GB.c3 hg 2 rfl
          clear hg hi hr
          refine withs_guard rfl rfl ?_
          simp only [withs, List.getElem?_cons_zero, List.getElem?_cons_succ, Option.bind, Option.getD]
          repeat (first | (with_reducible refine all_isV ?_) | (with_reducible refine all_isRD ?_; intro sx Ax kx cx hvx hwx) | (with_reducible refine all_isD ?_; intro sx Ax kx cx hvx hwx))
          refine ⟨by kernel_rfl, ?_⟩
          go_simp
          exact ⟨Only.refl _ _, isV.self _ _⟩
        refine owes2_cons (fun wx hox => ?_) ?_
        · skip
          have hg := Lib.hid (HG.out.step hox)
          have hi := Lib.hid (HI.out.step hox)
          have hr := Lib.hid (HR.out.step hox)
          have dv_x := (WL.dv (x := x) hi 1 rfl)
          have dv_y := (WL.dv (x := y) hi 0 rfl)
          have htx := Lib.hid (hT.out.keep hg.out.only)
          clear hg hi hr
          refine withs_guard rfl rfl ?_
          simp only [withs, List.getElem?_cons_zero, List.getElem?_cons_succ, Option.bind, Option.getD]
          repeat (first | (with_reducible refine all_isV ?_) | (with_reducible refine all_isRD ?_; intro sx Ax kx cx hvx hwx) | (with_reducible refine all_isD ?_; intro sx Ax kx cx hvx hwx))
          refine ⟨by kernel_rfl, ?_⟩
          go_simp
          (with_reducible exact grow_d (mulV_d vm Hvm.out dv_x dv_y BX BY (by omega) htx))
        refine owes2_cons (fun wx hox => ?_) ?_
        · skip
          have hg := Lib.hid (HG.out.step hox)
          have hi := Lib.hid (HI.out.step hox)
          have hr := Lib.hid (HR.out.step hox)
          obtain ⟨x25_0, x25_1, x25_2⟩ := GB.c3 hg 1 rfl
          clear hg hi hr
          refine withs_guard rfl rfl ?_
          simp only [withs, List.getElem?_cons_zero, List.getElem?_cons_succ, Option.bind, Option.getD]
          repeat (first | (with_reducible refine all_isV ?_) | (with_reducible refine all_isRD ?_; intro sx Ax kx cx hvx hwx) | (with_reducible refine all_isD ?_; intro sx Ax kx cx hvx hwx))
          refine ⟨by kernel_rfl, ?_⟩
          go_simp
          exact ⟨Only.refl _ _, isV.self _ _⟩
        refine owes2_cons (fun wx hox => ?_) ?_
        · skip
          have hg := Lib.hid (HG.out.step hox)
          have hi := Lib.hid (HI.out.step hox)
          have hr := Lib.hid (HR.out.step hox)
          obtain ⟨x26_0, x26_1, x26_2⟩ := GB.c3 hg 0 rfl
          clear hg hi hr
          refine withs_guard rfl rfl ?_
          simp only [withs, List.getElem?_cons_zero, List.getElem?_cons_succ, Option.bind, Option.getD]
          repeat (first | (with_reducible refine all_isV ?_) | (with_reducible refine all_isRD ?_; intro sx Ax kx cx hvx hwx) | (with_reducible refine all_isD ?_; intro sx Ax kx cx hvx hwx))
          refine ⟨by kernel_rfl, ?_⟩
          go_simp
          exact ⟨Only.refl _ _, isV.self _ _⟩
        refine owes2_cons (fun wx hox => ?_) ?_
        · skip
          have hg := Lib.hid (HG.out.step hox)
          have hi := Lib.hid (HI.out.step hox)
          have hr := Lib.hid (HR.out.step hox)
          have rd_rx := (RL.rd (x := rx) hr 1 rfl)
          have rd_ry := (RL.rd (x := ry) hr 0 rfl)
          clear hg hi hr
          refine withs_guard rfl rfl ?_
          simp only [withs, List.getElem?_cons_zero, List.getElem?_cons_succ, Option.bind, Option.getD]
          repeat (first | (with_reducible refine all_isV ?_) | (with_reducible refine all_isRD ?_; intro sx Ax kx cx hvx hwx) | (with_reducible refine all_isD ?_; intro sx Ax kx cx hvx hwx))
          refine ⟨by kernel_rfl, ?_⟩
          go_simp
          (with_reducible exact grow_rd (rmulV_d vm Hrvm.out rd_rx rd_ry Brx Bry (by omega)))
        refine owes2_cons (fun wx hox => ?_) ?_
        · skip
          skip
          refine withs_guard rfl rfl ?_
          simp only [withs, List.getElem?_cons_zero, List.getElem?_cons_succ, Option.bind, Option.getD]
          repeat (first | (with_reducible refine all_isV ?_) | (with_reducible refine all_isRD ?_; intro sx Ax kx cx hvx hwx) | (with_reducible refine all_isD ?_; intro sx Ax kx cx hvx hwx))
          refine ⟨by kernel_rfl, ?_⟩
          go_simp
          (with_reducible exact grow_of (is3_d (x := vm) (Lib.hid (isD.of (by assumption) (by assumption))) (RD.of (by assumption) (by assumption)) Cvm Bvm (by omega)))
        refine owes2_cons (fun wx hox => ?_) ?_
        · skip
          skip
          refine withs_plain rfl ?_
          simp only [withs, List.getElem?_cons_zero, List.getElem?_cons_succ, Option.bind, Option.getD]
          repeat (first | (with_reducible refine all_isV ?_) | (with_reducible refine all_isRD ?_; intro sx Ax kx cx hvx hwx) | (with_reducible refine all_isD ?_; intro sx Ax kx cx hvx hwx))
          go_simp
          exact ⟨Only.refl _ _, isV.self _ _⟩
        refine owes2_cons (fun wx hox => ?_) ?_
        · skip
          skip
          refine withs_plain rfl ?_
          simp only [withs, List.getElem?_cons_zero, List.getElem?_cons_succ, Option.bind, Option.getD]
          repeat (first | (with_reducible refine all_isV ?_) | (with_reducible refine all_isRD ?_; intro sx Ax kx cx hvx hwx) | (with_reducible refine all_isD ?_; intro sx Ax kx cx hvx hwx))
          go_simp
          exact ⟨Only.refl _ _, isV.self _ _⟩
        refine owes2_cons (fun wx hox => ?_) ?_
        · skip
          have hg := Lib.hid (HG.out.step hox)
          have hi := Lib.hid (HI.out.step hox)
          have hr := Lib.hid (HR.out.step hox)
          obtain ⟨x27_0, x27_1, x27_2⟩ := GB.c3 hg 3 rfl
          clear hg hi hr
          refine withs_guard rfl rfl ?_
          simp only [withs, List.getElem?_cons_zero, List.getElem?_cons_succ, Option.bind, Option.getD]
          repeat (first | (with_reducible refine all_isV ?_) | (with_reducible refine all_isRD ?_; intro sx Ax kx cx hvx hwx) | (with_reducible refine all_isD ?_; intro sx Ax kx cx hvx hwx))
          refine ⟨by kernel_rfl, ?_⟩
          go_simp
          exact ⟨Only.refl _ _, isV.self _ _⟩
        refine owes2_cons (fun wx hox => ?_) ?_
        · skip
          have hg := Lib.hid (HG.out.step hox)
          have hi := Lib.hid (HI.out.step hox)
          have hr := Lib.hid (HR.out.step hox)
          have dv_x := (WL.dv (x := x) hi 1 rfl)
          clear hg hi hr
          refine withs_guard rfl rfl ?_
          simp only [withs, List.getElem?_cons_zero, List.getElem?_cons_succ, Option.bind, Option.getD]
          repeat (first | (with_reducible refine all_isV ?_) | (with_reducible refine all_isRD ?_; intro sx Ax kx cx hvx hwx) | (with_reducible refine all_isD ?_; intro sx Ax kx cx hvx hwx))
          refine ⟨by kernel_rfl, ?_⟩
          go_simp
          (with_reducible exact grow_of (topV_d (x := x) tx dv_x BX (by omega) Htx.out))
        refine owes2_cons (fun wx hox => ?_) ?_
        · skip
          have hg := Lib.hid (HG.out.step hox)
          have hi := Lib.hid (HI.out.step hox)
          have hr := Lib.hid (HR.out.step hox)
          obtain ⟨x28_0, x28_1, x28_2⟩ := GB.c3 hg 1 rfl
          clear hg hi hr
          refine withs_guard rfl rfl ?_
          simp only [withs, List.getElem?_cons_zero, List.getElem?_cons_succ, Option.bind, Option.getD]
          repeat (first | (with_reducible refine all_isV ?_) | (with_reducible refine all_isRD ?_; intro sx Ax kx cx hvx hwx) | (with_reducible refine all_isD ?_; intro sx Ax kx cx hvx hwx))
          refine ⟨by kernel_rfl, ?_⟩
          go_simp
          exact ⟨Only.refl _ _, isV.self _ _⟩
        refine owes2_cons (fun wx hox => ?_) ?_
        · skip
          have hg := Lib.hid (HG.out.step hox)
          have hi := Lib.hid (HI.out.step hox)
          have hr := Lib.hid (HR.out.step hox)
          have rd_rx := (RL.rd (x := rx) hr 1 rfl)
          clear hg hi hr
          refine withs_guard rfl rfl ?_
          simp only [withs, List.getElem?_cons_zero, List.getElem?_cons_succ, Option.bind, Option.getD]
          repeat (first | (with_reducible refine all_isV ?_) | (with_reducible refine all_isRD ?_; intro sx Ax kx cx hvx hwx) | (with_reducible refine all_isD ?_; intro sx Ax kx cx hvx hwx))
          refine ⟨by kernel_rfl, ?_⟩
          go_simp
          (with_reducible exact grow_of (rtop_d (x := rx) tx rd_rx Brx (by omega) Hrtx.out))
        refine owes2_cons (fun wx hox => ?_) ?_
        · skip
          skip
          refine withs_guard rfl rfl ?_
          simp only [withs, List.getElem?_cons_zero, List.getElem?_cons_succ, Option.bind, Option.getD]
          repeat (first | (with_reducible refine all_isV ?_) | (with_reducible refine all_isRD ?_; intro sx Ax kx cx hvx hwx) | (with_reducible refine all_isD ?_; intro sx Ax kx cx hvx hwx))
          refine ⟨by kernel_rfl, ?_⟩
          go_simp
          exact ⟨Only.refl _ _, isV.self _ _⟩
        refine owes2_cons (fun wx hox => ?_) ?_
        · skip
          skip
          refine withs_plain rfl ?_
          simp only [withs, List.getElem?_cons_zero, List.getElem?_cons_succ, Option.bind, Option.getD]
          repeat (first | (with_reducible refine all_isV ?_) | (with_reducible refine all_isRD ?_; intro sx Ax kx cx hvx hwx) | (with_reducible refine all_isD ?_; intro sx Ax kx cx hvx hwx))
          go_simp
          exact ⟨Only.refl _ _, isV.self _ _⟩
        refine owes2_cons (fun wx hox => ?_) ?_
        · skip
          skip
          refine withs_plain rfl ?_
          simp only [withs, List.getElem?_cons_zero, List.getElem?_cons_succ, Option.bind, Option.getD]
          repeat (first | (with_reducible refine all_isV ?_) | (with_reducible refine all_isRD ?_; intro sx Ax kx cx hvx hwx) | (with_reducible refine all_isD ?_; intro sx Ax kx cx hvx hwx))
          go_simp
          exact ⟨Only.refl _ _, isV.self _ _⟩
        refine owes2_cons (fun wx hox => ?_) ?_
        · skip
          skip
          refine withs_guard rfl rfl ?_
          simp only [withs, List.getElem?_cons_zero, List.getElem?_cons_succ, Option.bind, Option.getD]
          repeat (first | (with_reducible refine all_isV ?_) | (with_reducible refine all_isRD ?_; intro sx Ax kx cx hvx hwx) | (with_reducible refine all_isD ?_; intro sx Ax kx cx hvx hwx))
          refine ⟨by kernel_rfl, ?_⟩
          go_simp
          exact ⟨Only.refl _ _, isV.self _ _⟩
        refine owes2_cons (fun wx hox => ?_) ?_
        · skip
          have hg := Lib.hid (HG.out.step hox)
          have hi := Lib.hid (HI.out.step hox)
          have hr := Lib.hid (HR.out.step hox)
          obtain ⟨x29_0, x29_1, x29_2⟩ := GB.c3 hg 3 rfl
          clear hg hi hr
          refine withs_guard rfl rfl ?_
          simp only [withs, List.getElem?_cons_zero, List.getElem?_cons_succ, Option.bind, Option.getD]
          repeat (first | (with_reducible refine all_isV ?_) | (with_reducible refine all_isRD ?_; intro sx Ax kx cx hvx hwx) | (with_reducible refine all_isD ?_; intro sx Ax kx cx hvx hwx))
          refine ⟨by kernel_rfl, ?_⟩
          go_simp
          exact ⟨Only.refl _ _, isV.self _ _⟩
        refine owes2_cons (fun wx hox => ?_) ?_
        · skip
          skip
          refine withs_guard rfl rfl ?_
          simp only [withs, List.getElem?_cons_zero, List.getElem?_cons_succ, Option.bind, Option.getD]
          repeat (first | (with_reducible refine all_isV ?_) | (with_reducible refine all_isRD ?_; intro sx Ax kx cx hvx hwx) | (with_reducible refine all_isD ?_; intro sx Ax kx cx hvx hwx))
          refine ⟨by kernel_rfl, ?_⟩
          go_simp
          exact ⟨Only.refl _ _, isV.self _ _⟩
        refine owes2_cons (fun wx hox => ?_) ?_
        · skip
          have hg := Lib.hid (HG.out.step hox)
          have hi := Lib.hid (HI.out.step hox)
          have hr := Lib.hid (HR.out.step hox)
          obtain ⟨x30_0, x30_1, x30_2⟩ := GB.c3 hg 3 rfl
          clear hg hi hr
          refine withs_guard rfl rfl ?_
          simp only [withs, List.getElem?_cons_zero, List.getElem?_cons_succ, Option.bind, Option.getD]
          repeat (first | (with_reducible refine all_isV ?_) | (with_reducible refine all_isRD ?_; intro sx Ax kx cx hvx hwx) | (with_reducible refine all_isD ?_; intro sx Ax kx cx hvx hwx))
          refine ⟨by kernel_rfl, ?_⟩
          go_simp
          exact ⟨Only.refl _ _, isV.self _ _⟩
        refine owes2_cons (fun wx hox => ?_) ?_
        · skip
          have hg := Lib.hid (HG.out.step hox)
          have hi := Lib.hid (HI.out.step hox)
          have hr := Lib.hid (HR.out.step hox)
          have iv_x := (WL.at (z := x.z) hi 1 rfl)
          have htx := Lib.hid (hT.out.keep hg.out.only)
          clear hg hi hr
          refine withs_guard rfl rfl ?_
          simp only [withs, List.getElem?_cons_zero, List.getElem?_cons_succ, Option.bind, Option.getD]
          repeat (first | (with_reducible refine all_isV ?_) | (with_reducible refine all_isRD ?_; intro sx Ax kx cx hvx hwx) | (with_reducible refine all_isD ?_; intro sx Ax kx cx hvx hwx))
          refine ⟨by kernel_rfl, ?_⟩
          go_simp
          (with_reducible exact grow_d (makeV_d rx Hrx.out iv_x HBx he3.1 he3.2 htx))
        refine owes2_cons (fun wx hox => ?_) ?_
        · skip
          have hg := Lib.hid (HG.out.step hox)
          have hi := Lib.hid (HI.out.step hox)
          have hr := Lib.hid (HR.out.step hox)
          obtain ⟨x31_0, x31_1, x31_2⟩ := GB.c3 hg 1 rfl
          have rd_rx := (RL.rd (x := rx) hr 1 rfl)
          clear hg hi hr
          refine withs_guard rfl rfl ?_
          simp only [withs, List.getElem?_cons_zero, List.getElem?_cons_succ, Option.bind, Option.getD]
          repeat (first | (with_reducible refine all_isV ?_) | (with_reducible refine all_isRD ?_; intro sx Ax kx cx hvx hwx) | (with_reducible refine all_isD ?_; intro sx Ax kx cx hvx hwx))
          refine ⟨by kernel_rfl, ?_⟩
          go_simp
          (exact ⟨Only.refl _ _, rd_rx.out⟩)
        refine owes2_cons (fun wx hox => ?_) ?_
        · skip
          skip
          refine withs_guard rfl rfl ?_
          simp only [withs, List.getElem?_cons_zero, List.getElem?_cons_succ, Option.bind, Option.getD]
          repeat (first | (with_reducible refine all_isV ?_) | (with_reducible refine all_isRD ?_; intro sx Ax kx cx hvx hwx) | (with_reducible refine all_isD ?_; intro sx Ax kx cx hvx hwx))
          refine ⟨by kernel_rfl, ?_⟩
          go_simp
          (with_reducible exact grow_of (is3_d (x := rx) (Lib.hid (isD.of (by assumption) (by assumption))) (RD.of (by assumption) (by assumption)) Crx Brx (by omega)))
        refine owes2_cons (fun wx hox => ?_) ?_
        · skip
          skip
          refine withs_plain rfl ?_
          simp only [withs, List.getElem?_cons_zero, List.getElem?_cons_succ, Option.bind, Option.getD]
          repeat (first | (with_reducible refine all_isV ?_) | (with_reducible refine all_isRD ?_; intro sx Ax kx cx hvx hwx) | (with_reducible refine all_isD ?_; intro sx Ax kx cx hvx hwx))
          go_simp
          exact ⟨Only.refl _ _, isV.self _ _⟩
        refine owes2_cons (fun wx hox => ?_) ?_
        · skip
          skip
          refine withs_plain rfl ?_
          simp only [withs, List.getElem?_cons_zero, List.getElem?_cons_succ, Option.bind, Option.getD]
          repeat (first | (with_reducible refine all_isV ?_) | (with_reducible refine all_isRD ?_; intro sx Ax kx cx hvx hwx) | (with_reducible refine all_isD ?_; intro sx Ax kx cx hvx hwx))
          go_simp
          exact ⟨Only.refl _ _, isV.self _ _⟩
        refine owes2_cons (fun wx hox => ?_) ?_
        · skip
          skip
          refine withs_guard rfl rfl ?_
          simp only [withs, List.getElem?_cons_zero, List.getElem?_cons_succ, Option.bind, Option.getD]
          repeat (first | (with_reducible refine all_isV ?_) | (with_reducible refine all_isRD ?_; intro sx Ax kx cx hvx hwx) | (with_reducible refine all_isD ?_; intro sx Ax kx cx hvx hwx))
          refine ⟨by kernel_rfl, ?_⟩
          go_simp
          exact ⟨Only.refl _ _, isV.self _ _⟩
        refine owes2_cons (fun wx hox => ?_) ?_
        · skip
          have hg := Lib.hid (HG.out.step hox)
          have hi := Lib.hid (HI.out.step hox)
          have hr := Lib.hid (HR.out.step hox)
          have htx := Lib.hid (hT.out.keep hg.out.only)
          clear hg hi hr
          refine withs_guard rfl rfl ?_
          simp only [withs, List.getElem?_cons_zero, List.getElem?_cons_succ, Option.bind, Option.getD]
          repeat (first | (with_reducible refine all_isV ?_) | (with_reducible refine all_isRD ?_; intro sx Ax kx cx hvx hwx) | (with_reducible refine all_isD ?_; intro sx Ax kx cx hvx hwx))
          refine ⟨by kernel_rfl, ?_⟩
          go_simp
          (with_reducible exact grow_d (ofV_d v vo _ Hvo.out Hv64 htx))
        refine owes2_cons (fun wx hox => ?_) ?_
        · skip
          skip
          refine withs_guard rfl rfl ?_
          simp only [withs, List.getElem?_cons_zero, List.getElem?_cons_succ, Option.bind, Option.getD]
          repeat (first | (with_reducible refine all_isV ?_) | (with_reducible refine all_isRD ?_; intro sx Ax kx cx hvx hwx) | (with_reducible refine all_isD ?_; intro sx Ax kx cx hvx hwx))
          refine ⟨by kernel_rfl, ?_⟩
          go_simp
          exact ⟨Only.refl _ _, isV.self _ _⟩
        refine owes2_cons (fun wx hox => ?_) ?_
        · skip
          skip
          refine withs_guard rfl rfl ?_
          simp only [withs, List.getElem?_cons_zero, List.getElem?_cons_succ, Option.bind, Option.getD]
          repeat (first | (with_reducible refine all_isV ?_) | (with_reducible refine all_isRD ?_; intro sx Ax kx cx hvx hwx) | (with_reducible refine all_isD ?_; intro sx Ax kx cx hvx hwx))
          refine ⟨by kernel_rfl, ?_⟩
          go_simp
          (with_reducible exact grow_rd (rintV_d v vo Hvo.out _ Hv64))
        refine owes2_cons (fun wx hox => ?_) ?_
        · skip
          skip
          refine withs_guard rfl rfl ?_
          simp only [withs, List.getElem?_cons_zero, List.getElem?_cons_succ, Option.bind, Option.getD]
          repeat (first | (with_reducible refine all_isV ?_) | (with_reducible refine all_isRD ?_; intro sx Ax kx cx hvx hwx) | (with_reducible refine all_isD ?_; intro sx Ax kx cx hvx hwx))
          refine ⟨by kernel_rfl, ?_⟩
          go_simp
          (with_reducible exact grow_of (is3_d (x := vo) (Lib.hid (isD.of (by assumption) (by assumption))) (RD.of (by assumption) (by assumption)) Cvo Bvo (by omega)))
        refine owes2_cons (fun wx hox => ?_) ?_
        · skip
          skip
          refine withs_plain rfl ?_
          simp only [withs, List.getElem?_cons_zero, List.getElem?_cons_succ, Option.bind, Option.getD]
          repeat (first | (with_reducible refine all_isV ?_) | (with_reducible refine all_isRD ?_; intro sx Ax kx cx hvx hwx) | (with_reducible refine all_isD ?_; intro sx Ax kx cx hvx hwx))
          go_simp
          exact ⟨Only.refl _ _, isV.self _ _⟩
        refine owes2_cons (fun wx hox => ?_) ?_
        · skip
          skip
          refine withs_plain rfl ?_
          simp only [withs, List.getElem?_cons_zero, List.getElem?_cons_succ, Option.bind, Option.getD]
          repeat (first | (with_reducible refine all_isV ?_) | (with_reducible refine all_isRD ?_; intro sx Ax kx cx hvx hwx) | (with_reducible refine all_isD ?_; intro sx Ax kx cx hvx hwx))
          go_simp
          exact ⟨Only.refl _ _, isV.self _ _⟩
        exact owes2_nil
      case hl =>
        repeat (refine List.forall_mem_cons.2 ⟨?_, ?_⟩; first | exact isV.lasts _ | exact isRD.lasts _ | exact isD.lasts _)
        exact fun _ h => (by cases h)
      intro wx hox
      refine withs_of (by simp only [List.length, List.range, List.range.loop]; exact rfl) ?_
      simp only [withs, List.getElem?_cons_zero, List.getElem?_cons_succ, Option.bind, Option.getD]
      repeat (first | (with_reducible refine all_isV ?_) | (with_reducible refine all_isRD ?_; intro sx Ax kx cx hvx hwx) | (with_reducible refine all_isD ?_; intro sx Ax kx cx hvx hwx))
      go_simp
      as_aux_lemma =>
        replace HG := Lib.hid (HG.out.step hox)
        replace HI := Lib.hid (HI.out.step hox)
        replace HR := Lib.hid (HR.out.step hox)
        clear hox
        go_wp2_with fail
        go_ret
        exact ⟨rfl, HG.out.only⟩

theorem topD_nrm (z e : Int) : topD (nrm z e) = topD ⟨z, e⟩ := by
  by_cases h : z = 0
  · subst h; rfl
  · have h1 := top_spec (x := ⟨z, e⟩) h
    have hq : (nrm z e).q = (⟨z, e⟩ : Dy).q := nrm_q z e
    have h2 : (nrm z e).z ≠ 0 := fun hc => h (q_zero.1 (by rw [← hq]; exact q_zero.2 hc))
    have h3 := top_spec h2
    rw [hq] at h3
    have hs : (nrm z e).z < 0 ↔ z < 0 := by
      have a := q_neg (x := nrm z e)
      have b := q_neg (x := ⟨z, e⟩)
      rw [hq] at a
      exact a.symm.trans b
    have key : ∀ (u v : Int) (r : Rat), p2 (u - 1) ≤ r → r < p2 u → p2 (v - 1) ≤ r → r < p2 v → u = v := fun u v r a1 a2 a3 a4 => by
      rcases Int.lt_trichotomy u v with h | h | h
      · have := p2_mono (show u ≤ v - 1 by omega)
        grind
      · exact h
      · have := p2_mono (show v ≤ u - 1 by omega)
        grind
    by_cases hn : z < 0
    · have a := h1.2 hn
      have b := h3.2 (hs.2 hn)
      exact key _ _ _ b.1 b.2 a.1 a.2
    · have a := h1.1 (by show 0 < z; omega)
      have b := h3.1 (by have := hs.1; omega)
      exact key _ _ _ b.1 b.2 a.1 a.2
theorem dyadTells_any (n1 : Bool) (A1 : Option Addr) (c1 : Nat) (L1 : List Nat) (e1 : Int) (n2 : Bool) (A2 : Option Addr) (c2 : Nat) (L2 : List Nat) (e2 : Int) (v : Int) (w : World)
    (h1 : LimbsIn w A1 L1) (_ : L1.length ≤ c1) (_ : c1 ≤ maxLen) (_ : -9223372036854775808 ≤ e1 ∧ e1 ≤ 9223372036854775807) (h2 : LimbsIn w A2 L2) (_ : L2.length ≤ c2) (_ : c2 ≤ maxLen) (_ : -9223372036854775808 ≤ e2 ∧ e2 ≤ 9223372036854775807) (hv : (Lit.int .i64 v).wf = true) (htab : Tab w) (hT : Tab6 w) :
    Calls Tryz.prog 4 #[.agg #[.bool n1, .slice A1 L1.length c1, .int .i64 e1], .agg #[.bool n2, .slice A2 L2.length c2, .int .i64 e2], .int .i64 v] w fun e w' => e = .returned (.bool true) ∧ Only [] w w' := by
  cases hl : lightN [⟨n1, A1, L1.length, c1, e1⟩, ⟨n2, A2, L2.length, c2, e2⟩] with
  | false => exact dtells_out n1 n2 A1 A2 L1 L2 c1 c2 e1 e2 v w (Lib.hid htab) (Lib.hid hT) hl
  | true =>
    simp only [lightN, List.all_cons, List.all_nil, NR.ok, Bool.and_true, Bool.and_eq_true, decide_eq_true_eq] at hl
    obtain ⟨x, hx⟩ : ∃ x : Dy, x = ⟨sg n1 (val L1), e1⟩ := ⟨_, rfl⟩
    obtain ⟨y, hy⟩ : ∃ y : Dy, y = ⟨sg n2 (val L2), e2⟩ := ⟨_, rfl⟩
    have hxe : x.e = e1 := by rw [hx]
    have hye : y.e = e2 := by rw [hy]
    have hxz : sg n1 (val L1) = x.z := by rw [hx]
    have hyz : sg n2 (val L2) = y.z := by rw [hy]
    obtain ⟨K, hK⟩ : ∃ K : Nat, K = 3000 := ⟨_, rfl⟩
    have BX : Bnd K x := num_bnd (by omega) (by omega) h1.2 hxz (by omega) (by omega)
    have BY : Bnd K y := num_bnd (by omega) (by omega) h2.2 hyz (by omega) (by omega)
    obtain ⟨rx, hrx⟩ : ∃ d, nrm x.z x.e = d := ⟨_, rfl⟩
    obtain ⟨ry, hry⟩ : ∃ d, nrm y.z y.e = d := ⟨_, rfl⟩
    have BRX : Bnd (2 * K) rx := by rw [← hrx]; exact BX.norm (Nat.le_refl _)
    have BRY : Bnd (2 * K) ry := by rw [← hry]; exact BY.norm (Nat.le_refl _)
    have CX : Can rx := by rw [← hrx]; exact nrm_can _ _
    have CY : Can ry := by rw [← hry]; exact nrm_can _ _
    have qx : rx.q = x.q := by rw [← hrx]; exact nrm_q _ _
    have qy : ry.q = y.q := by rw [← hry]; exact nrm_q _ _
    obtain ⟨M, hM⟩ : ∃ M : Nat, M = 20 * K := ⟨_, rfl⟩
    have hv64 : -9223372036854775808 ≤ v ∧ v ≤ 9223372036854775807 := by
      have k1 : IntKind.i64.min = -9223372036854775808 := by kernel_rfl
      have k2 : IntKind.i64.max = 9223372036854775807 := by kernel_rfl
      simp only [Lit.wf, k1, k2, Bool.and_eq_true, decide_eq_true_eq] at hv
      exact hv
    have BV : Bnd M (nrm v 0) := bnd_nrm (K := 64) (M := 64) (by omega) (by omega) (by omega) (by omega)
    rw [← hxe, ← hye]
    exact dtells_in (N := K) (M := M) n1 n2 A1 A2 L1 L2 c1 c2 x y rx ry _ _ _ _ _ _ _ _ v w (by omega) (by omega) (Lib.hid hxz) (Lib.hid h1) (by omega) (by omega) (Lib.hid BX) (Lib.hid hyz) (Lib.hid h2) (by omega) (by omega) (Lib.hid BY)
      (Lib.hid hrx) (Lib.hid hry) (Lib.hid CX) (Lib.hid CY) (Lib.hid (BRX.mono (by omega))) (Lib.hid (BRY.mono (by omega))) (Lib.hid (bits_few BX.z (by omega))) (by omega) (Lib.hid hv64)
      (Lib.hid rfl) (Lib.hid (by rw [← hrx, nrm_sign])) (Lib.hid rfl) (Lib.hid (by rw [qx, qy])) (Lib.hid rfl) (Lib.hid (by rw [← hrx]; exact topD_nrm _ _)) (Lib.hid rfl)
      (Lib.hid rfl) (Lib.hid (Can.ext (dNot_can _) (dNot_can _) (by rw [dNot_q, dNot_q, qx]))) (Lib.hid rfl) (Lib.hid (Can.ext (dAdd_can _ _) (dAdd_can _ _) (by rw [dAdd_q, dAdd_q, qx, qy]))) (Lib.hid rfl) (Lib.hid (Can.ext (dSub_can _ _) (dSub_can _ _) (by rw [dSub_q, dSub_q, qx, qy]))) (Lib.hid rfl) (Lib.hid (Can.ext (dMul_can _ _) (dMul_can _ _) (by rw [dMul_q, dMul_q, qx, qy])))
      (Lib.hid (dNot_can _)) (Lib.hid (BX.not (by omega))) (Lib.hid (dAdd_can _ _)) (Lib.hid (BX.add BY (by omega))) (Lib.hid (dSub_can _ _)) (Lib.hid (BX.sub BY (by omega))) (Lib.hid (dMul_can _ _)) (Lib.hid (BX.mul BY (by omega))) (Lib.hid (nrm_can _ _)) (Lib.hid BV) (Lib.hid htab) (Lib.hid hT)

end Go.Proofs.YtkibkmdgibemkaaGreatDoor
