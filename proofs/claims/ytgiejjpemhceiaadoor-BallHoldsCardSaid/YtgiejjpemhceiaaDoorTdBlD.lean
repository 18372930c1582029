/-
  Balls: Between.
-/
import Derived.Test.YtgiejjpemhceiaaDoorTdBlC
import Derived.Test.YtgiejjpemhceiaaDoorTdLawDyA
namespace Go.Proofs.YtgiejjpemhceiaaDoor
set_option linter.unusedSimpArgs false
open Go.RowKit

theorem sameV_d {w : World} {a : Value} {x : Dy} {N : Nat} (r : Dy) (hr : nrm x.z x.e = r) (ha : Hid (DV w a x)) (bx : Hid (Bnd N x)) (hN : N ≤ 8000000) (hT : Hid (Tab6 w)) : Calls Tryd.prog 107 #[a] w (DPost r w) := hr ▸ same_d ha bx hN hT
set_option maxHeartbeats 8000000 in
set_option maxRecDepth 100000 in
theorem between_b {w : World} {a b : Value} {x y : Dy} {N : Nat} (cm : Int) (lo hi : Dy) (hcm : cmpQ x.q y.q = cm) (h1 : 0 < cm → nrm y.z y.e = lo ∧ nrm x.z x.e = hi) (h2 : ¬ 0 < cm → nrm x.z x.e = lo ∧ nrm y.z y.e = hi) (ha : Hid (DV w a x)) (hb : Hid (DV w b y)) (bx : Hid (Bnd N x)) (by_ : Hid (Bnd N y)) (hN : N ≤ 2000000) (hT : Hid (Tab6 w)) : Calls Tryd.prog 105 #[a, b] w (BPost lo hi w) := by
  obtain ⟨s8, A8, k8, c8, rfl, hx⟩ := ha.out
  obtain ⟨s9, A9, k9, c9, rfl, hy⟩ := hb.out
  have he := ((DB.start w).new hx).new (hy.only ((Only.refl [] w).alloc _))
  have hbl := Blk.new ((w.alloc (.cells #[.bool s8, .slice A8 k8 c8, .int .i64 x.e] 37)).alloc (.cells #[.bool s9, .slice A9 k9 c9, .int .i64 y.e] 37)) 51 [.bool false, .slice none 0 0, .int .i64 0, .bool false, .slice none 0 0, .int .i64 0]
  have he2 := he.step ((Only.refl [] _).alloc (.cells #[.bool false, .slice none 0 0, .int .i64 0, .bool false, .slice none 0 0, .int .i64 0] 51))
  simp only [World.size_alloc] at he2 hbl
  have HE := Lib.hid he2
  have HBl := Lib.hid hbl
  have HC := Lib.hid hcm
  have H1 := Lib.hid h1
  have H2 := Lib.hid h2
  clear he he2 hbl hcm hx hy ha hb h1 h2
  obtain ⟨i0, i1, i2, u0, u1, u2⟩ := DB.cells HE 1 rfl
  obtain ⟨j0, j1, j2, v0, v1, v2⟩ := DB.cells HE 0 rfl
  go_enter Tryd.func105, Tryd.ntmps105
  go_wp2_with fail
  (with_reducible refine (cmpV_d (x := x) (y := y) cm (DB.dv HE 1 rfl) (DB.dv HE 0 rfl) bx by_ hN HC.out).mono ?_)
  rintro e w5 ⟨rfl, ho⟩
  replace HE := Lib.hid (HE.out.step ho)
  replace HBl := Lib.hid (HBl.out.only ho (by simp))
  clear ho i0 i1 i2 u0 u1 u2 j0 j1 j2 v0 v1 v2
  by_cases hgt : 0 < cm
  · obtain ⟨hlo, hhi⟩ := H1.out (by omega)
    have HX := Lib.hid hlo
    have HY := Lib.hid hhi
    clear H1 H2 hlo hhi
    obtain ⟨i0, i1, i2, u0, u1, u2⟩ := DB.cells HE 1 rfl
    obtain ⟨j0, j1, j2, v0, v1, v2⟩ := DB.cells HE 0 rfl
    go_upto_region 3 with fail
    have he1 := HE.out.put 1 rfl (DB.iv HE 0 rfl).out
    have he2 := he1.put 0 rfl ((DB.iv HE 1 rfl).out.set3 (HE.out.all 1 _ rfl).1 (noLimb3 _ _ _ _ _))
    have hbl := (HBl.out.set3 (g' := w.heap.size) (x := .bool s9) (y := .slice A9 k9 c9) (u := .int .i64 y.e) (by omega)).set3 (g' := w.heap.size + 1) (x := .bool s8) (y := .slice A8 k8 c8) (u := .int .i64 x.e) (by omega)
    have HE2 := Lib.hid he2
    have HB2 := Lib.hid hbl
    clear he1 he2 hbl
    clear i0 i1 i2 u0 u1 u2 j0 j1 j2 v0 v1 v2
    clear HE HBl
    have HE := HE2
    have HBl := HB2
    clear HE2 HB2
    generalize (((((w5.setCell _ _).setCell _ _).setCell _ _).setCell _ _).setCell _ _).setCell _ _ = wu at *
    apply wp_region_typed_tail2 4 (by kernel_rfl) [isV _, isD lo, isV _, isD hi] [[], [0], [], [2]] (by kernel_rfl) (by kernel_rfl) (by kernel_rfl)
    case ho =>
      simp only [List.take_succ_cons, List.take_zero]
      refine owes2_cons (fun wx hox => ?_) ?_
      · skip
        have he := Lib.hid (HE.out.step hox)
        obtain ⟨i0, i1, i2, -, -, -⟩ := DB.cells he 1 rfl
        obtain ⟨j0, j1, j2, -, -, -⟩ := DB.cells he 0 rfl
        refine withs_plain rfl ?_
        simp only [withs, List.getElem?_cons_zero, List.getElem?_cons_succ, Option.bind, Option.getD]
        repeat (first | (with_reducible refine all_isV ?_) | (with_reducible refine all_isD ?_; intro sx Ax kx cx hvx hwx))
        go_simp
        exact ⟨Only.refl _ _, isV.self _ _⟩
      refine owes2_cons (fun wx hox => ?_) ?_
      · skip
        have he := Lib.hid (HE.out.step hox)
        obtain ⟨i0, i1, i2, -, -, -⟩ := DB.cells he 1 rfl
        obtain ⟨j0, j1, j2, -, -, -⟩ := DB.cells he 0 rfl
        refine withs_plain rfl ?_
        simp only [withs, List.getElem?_cons_zero, List.getElem?_cons_succ, Option.bind, Option.getD]
        repeat (first | (with_reducible refine all_isV ?_) | (with_reducible refine all_isD ?_; intro sx Ax kx cx hvx hwx))
        go_simp
        (with_reducible exact grow_d (sameV_d lo HX.out (DB.dv he 1 rfl) by_ (by omega) (Lib.hid (hT.out.keep he.out.only))))
      refine owes2_cons (fun wx hox => ?_) ?_
      · skip
        have he := Lib.hid (HE.out.step hox)
        obtain ⟨i0, i1, i2, -, -, -⟩ := DB.cells he 1 rfl
        obtain ⟨j0, j1, j2, -, -, -⟩ := DB.cells he 0 rfl
        refine withs_plain rfl ?_
        simp only [withs, List.getElem?_cons_zero, List.getElem?_cons_succ, Option.bind, Option.getD]
        repeat (first | (with_reducible refine all_isV ?_) | (with_reducible refine all_isD ?_; intro sx Ax kx cx hvx hwx))
        go_simp
        exact ⟨Only.refl _ _, isV.self _ _⟩
      refine owes2_cons (fun wx hox => ?_) ?_
      · skip
        have he := Lib.hid (HE.out.step hox)
        obtain ⟨i0, i1, i2, -, -, -⟩ := DB.cells he 1 rfl
        obtain ⟨j0, j1, j2, -, -, -⟩ := DB.cells he 0 rfl
        refine withs_plain rfl ?_
        simp only [withs, List.getElem?_cons_zero, List.getElem?_cons_succ, Option.bind, Option.getD]
        repeat (first | (with_reducible refine all_isV ?_) | (with_reducible refine all_isD ?_; intro sx Ax kx cx hvx hwx))
        go_simp
        (with_reducible exact grow_d (sameV_d hi HY.out (DB.dv he 0 rfl) bx (by omega) (Lib.hid (hT.out.keep he.out.only))))
      exact owes2_nil
    case he =>
      simp only [List.drop_succ_cons, List.drop_zero]
      intro wx hox
      refine withs_of (by simp only [List.length, List.range, List.range.loop]; exact rfl) ?_
      simp only [withs, List.getElem?_cons_zero, List.getElem?_cons_succ, Option.bind, Option.getD]
      with_reducible refine all_isV ?_
      with_reducible refine all_isD ?_
      intro s1 A1 k1 c1 hv1 hw1
      with_reducible refine all_isV ?_
      with_reducible refine all_isD ?_
      intro s3 A3 k3 c3 hv3 hw3
      go_simp
      replace HBl := Lib.hid (HBl.out.only hox (by simp))
      replace HE := Lib.hid (HE.out.step hox)
      obtain ⟨y0, y1, y2, y3, y4, y5⟩ := (⟨HBl.out.cell 0, HBl.out.cell 1, HBl.out.cell 2, HBl.out.cell 3, HBl.out.cell 4, HBl.out.cell 5⟩ : _ ∧ _ ∧ _ ∧ _ ∧ _ ∧ _)
      obtain ⟨f0, f1, f2, f3, f4, f5⟩ := (⟨HBl.out.frozen 0, HBl.out.frozen 1, HBl.out.frozen 2, HBl.out.frozen 3, HBl.out.frozen 4, HBl.out.frozen 5⟩ : _ ∧ _ ∧ _ ∧ _ ∧ _ ∧ _)
      simp only [List.getElem?_cons_zero, List.getElem?_cons_succ] at y0 y1 y2 y3 y4 y5
      clear hox
      go_wp2_with fail
      refine bodyPost_ret (v := .agg #[.bool s1, .slice A1 k1 c1, .int .i64 (lo.e), .bool s3, .slice A3 k3 c3, .int .i64 (hi.e)]) (by simp [results, Tryd.results105, go_sem, y0, y1, y2, y3, y4, y5]) rfl ?_
      exact bfin hw1 hv1 hw3 hv3 (by omega) HBl.out (noLimb6 _ _ _ _ _ _ _ _ _ _) HE.out.only (only_set6 _ _ _ _ _ _ _ _)
    case hl =>
      repeat (refine List.forall_mem_cons.2 ⟨?_, ?_⟩; first | exact isV.lasts _ | exact isD.lasts _)
      exact fun _ h => (by cases h)
  · obtain ⟨hlo, hhi⟩ := H2.out (by omega)
    have HX := Lib.hid hlo
    have HY := Lib.hid hhi
    clear H1 H2 hlo hhi
    go_upto_region 3 with fail
    apply wp_region_typed_tail2 4 (by kernel_rfl) [isV _, isD lo, isV _, isD hi] [[], [0], [], [2]] (by kernel_rfl) (by kernel_rfl) (by kernel_rfl)
    case ho =>
      simp only [List.take_succ_cons, List.take_zero]
      refine owes2_cons (fun wx hox => ?_) ?_
      · skip
        have he := Lib.hid (HE.out.step hox)
        obtain ⟨i0, i1, i2, -, -, -⟩ := DB.cells he 1 rfl
        obtain ⟨j0, j1, j2, -, -, -⟩ := DB.cells he 0 rfl
        refine withs_plain rfl ?_
        simp only [withs, List.getElem?_cons_zero, List.getElem?_cons_succ, Option.bind, Option.getD]
        repeat (first | (with_reducible refine all_isV ?_) | (with_reducible refine all_isD ?_; intro sx Ax kx cx hvx hwx))
        go_simp
        exact ⟨Only.refl _ _, isV.self _ _⟩
      refine owes2_cons (fun wx hox => ?_) ?_
      · skip
        have he := Lib.hid (HE.out.step hox)
        obtain ⟨i0, i1, i2, -, -, -⟩ := DB.cells he 1 rfl
        obtain ⟨j0, j1, j2, -, -, -⟩ := DB.cells he 0 rfl
        refine withs_plain rfl ?_
        simp only [withs, List.getElem?_cons_zero, List.getElem?_cons_succ, Option.bind, Option.getD]
        repeat (first | (with_reducible refine all_isV ?_) | (with_reducible refine all_isD ?_; intro sx Ax kx cx hvx hwx))
        go_simp
        (with_reducible exact grow_d (sameV_d lo HX.out (DB.dv he 1 rfl) bx (by omega) (Lib.hid (hT.out.keep he.out.only))))
      refine owes2_cons (fun wx hox => ?_) ?_
      · skip
        have he := Lib.hid (HE.out.step hox)
        obtain ⟨i0, i1, i2, -, -, -⟩ := DB.cells he 1 rfl
        obtain ⟨j0, j1, j2, -, -, -⟩ := DB.cells he 0 rfl
        refine withs_plain rfl ?_
        simp only [withs, List.getElem?_cons_zero, List.getElem?_cons_succ, Option.bind, Option.getD]
        repeat (first | (with_reducible refine all_isV ?_) | (with_reducible refine all_isD ?_; intro sx Ax kx cx hvx hwx))
        go_simp
        exact ⟨Only.refl _ _, isV.self _ _⟩
      refine owes2_cons (fun wx hox => ?_) ?_
      · skip
        have he := Lib.hid (HE.out.step hox)
        obtain ⟨i0, i1, i2, -, -, -⟩ := DB.cells he 1 rfl
        obtain ⟨j0, j1, j2, -, -, -⟩ := DB.cells he 0 rfl
        refine withs_plain rfl ?_
        simp only [withs, List.getElem?_cons_zero, List.getElem?_cons_succ, Option.bind, Option.getD]
        repeat (first | (with_reducible refine all_isV ?_) | (with_reducible refine all_isD ?_; intro sx Ax kx cx hvx hwx))
        go_simp
        (with_reducible exact grow_d (sameV_d hi HY.out (DB.dv he 0 rfl) by_ (by omega) (Lib.hid (hT.out.keep he.out.only))))
      exact owes2_nil
    case he =>
      simp only [List.drop_succ_cons, List.drop_zero]
      intro wx hox
      refine withs_of (by simp only [List.length, List.range, List.range.loop]; exact rfl) ?_
      simp only [withs, List.getElem?_cons_zero, List.getElem?_cons_succ, Option.bind, Option.getD]
      with_reducible refine all_isV ?_
      with_reducible refine all_isD ?_
      intro s1 A1 k1 c1 hv1 hw1
      with_reducible refine all_isV ?_
      with_reducible refine all_isD ?_
      intro s3 A3 k3 c3 hv3 hw3
      go_simp
      replace HBl := Lib.hid (HBl.out.only hox (by simp))
      replace HE := Lib.hid (HE.out.step hox)
      obtain ⟨y0, y1, y2, y3, y4, y5⟩ := (⟨HBl.out.cell 0, HBl.out.cell 1, HBl.out.cell 2, HBl.out.cell 3, HBl.out.cell 4, HBl.out.cell 5⟩ : _ ∧ _ ∧ _ ∧ _ ∧ _ ∧ _)
      obtain ⟨f0, f1, f2, f3, f4, f5⟩ := (⟨HBl.out.frozen 0, HBl.out.frozen 1, HBl.out.frozen 2, HBl.out.frozen 3, HBl.out.frozen 4, HBl.out.frozen 5⟩ : _ ∧ _ ∧ _ ∧ _ ∧ _ ∧ _)
      simp only [List.getElem?_cons_zero, List.getElem?_cons_succ] at y0 y1 y2 y3 y4 y5
      clear hox
      go_wp2_with fail
      refine bodyPost_ret (v := .agg #[.bool s1, .slice A1 k1 c1, .int .i64 (lo.e), .bool s3, .slice A3 k3 c3, .int .i64 (hi.e)]) (by simp [results, Tryd.results105, go_sem, y0, y1, y2, y3, y4, y5]) rfl ?_
      exact bfin hw1 hv1 hw3 hv3 (by omega) HBl.out (noLimb6 _ _ _ _ _ _ _ _ _ _) HE.out.only (only_set6 _ _ _ _ _ _ _ _)
    case hl =>
      repeat (refine List.forall_mem_cons.2 ⟨?_, ?_⟩; first | exact isV.lasts _ | exact isD.lasts _)
      exact fun _ h => (by cases h)

end Go.Proofs.YtgiejjpemhceiaaDoor
