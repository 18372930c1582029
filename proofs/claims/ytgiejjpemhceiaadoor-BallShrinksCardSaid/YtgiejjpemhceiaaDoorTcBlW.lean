/-
  Balls: within.
-/
import Derived.Test.YtgiejjpemhceiaaDoorTcBlT
namespace Go.Proofs.YtgiejjpemhceiaaDoor
set_option linter.unusedSimpArgs false
open Go.RowKit
set_option maxHeartbeats 8000000 in
set_option maxRecDepth 100000 in
theorem within_core {w : World} {a b : Value} {x y u v rx ry ru rv : Dy} {N : Nat} (gm gn : Int) (hc1 : 0 ≤ gm) (hc2 : gn ≤ 0) (Hrx : Hid (nrm x.z x.e = rx)) (Hry : Hid (nrm y.z y.e = ry)) (Hru : Hid (nrm u.z u.e = ru)) (Hrv : Hid (nrm v.z v.e = rv)) (Crx : Hid (Can rx)) (Cry : Hid (Can ry)) (Brx : Hid (Bnd (2 * N) rx)) (Bry : Hid (Bnd (2 * N) ry)) (Bru : Hid (Bnd (2 * N) ru)) (Brv : Hid (Bnd (2 * N) rv)) (Hgm : Hid (cmpQ rx.q ru.q = gm)) (Hgn : Hid (cmpQ ry.q rv.q = gn))
    (ha : Hid (BV w a x y)) (hb : Hid (BV w b u v)) (bx : Hid (Bnd N x)) (by_ : Hid (Bnd N y)) (bu : Hid (Bnd N u)) (bv : Hid (Bnd N v)) (hN : N ≤ 500000) : Calls Tryd.prog 38 #[a, b] w fun e w' => e = .returned (.bool true) ∧ Only [] w w' := by
  obtain ⟨s1, A1, k1, c1, t1, B1, m1, d1, rfl, hx1, hy1⟩ := ha.out
  obtain ⟨s2, A2, k2, c2, t2, B2, m2, d2, rfl, hx2, hy2⟩ := hb.out
  have hk := ((KB.start w).new 51 [.bool s1, .slice A1 k1 c1, .int .i64 x.e, .bool t1, .slice B1 m1 d1, .int .i64 y.e]).new 51 [.bool s2, .slice A2 k2 c2, .int .i64 u.e, .bool t2, .slice B2 m2 d2, .int .i64 v.e]
  simp only [World.size_alloc] at hk
  have hi := ((((IVL.nil w).cons hy2).cons hx2).cons hy1).cons hx1
  have HI := Lib.hid (hi.step hk.only)
  have HK := Lib.hid hk
  clear hk hi hx1 hy1 hx2 hy2 ha hb
  go_enter Tryd.func38, Tryd.ntmps38
  go_upto_region 1 with fail
  generalize (w.alloc _).alloc _ = wq at *
  apply wp_region_typed2 (by kernel_rfl) [isV _, isV _, isRD rx, isV _, isV _, isRD ru, isV _, isV _, isV _, isV _, isV _, isRD ry, isV _, isV _, isRD rv, isV _, isV _, isV _, isV _] [[], [0], [1], [], [3], [4], [2, 5], [6], [7], [8], [8, 9], [8, 10], [8], [8, 12], [8, 13], [8, 11, 14], [8, 15], [8, 16], [17]] (by kernel_rfl) (by kernel_rfl)
  case ho =>
    refine owes2_cons (fun wx hox => ?_) ?_
    · skip
      skip
      refine withs_plain rfl ?_
      simp only [withs, List.getElem?_cons_zero, List.getElem?_cons_succ, Option.bind, Option.getD]
      repeat (first | (with_reducible refine all_isV ?_) | (with_reducible refine all_isRD ?_; intro sx Ax kx cx hvx hwx))
      go_simp
      exact ⟨Only.refl _ _, isV.self _ _⟩
    refine owes2_cons (fun wx hox => ?_) ?_
    · skip
      have hk := HK.out.step hox
      obtain ⟨i0, i1, i2, i3, i4, i5⟩ := hk.c6 1 rfl
      obtain ⟨j0, j1, j2, j3, j4, j5⟩ := hk.c6 0 rfl
      have iva := DV.of (IVL.at (Lib.hid (HI.out.step hox)) 0 rfl)
      have ivb := DV.of (IVL.at (Lib.hid (HI.out.step hox)) 1 rfl)
      have ivc := DV.of (IVL.at (Lib.hid (HI.out.step hox)) 2 rfl)
      have ivd := DV.of (IVL.at (Lib.hid (HI.out.step hox)) 3 rfl)
      clear hk
      refine withs_plain rfl ?_
      simp only [withs, List.getElem?_cons_zero, List.getElem?_cons_succ, Option.bind, Option.getD]
      repeat (first | (with_reducible refine all_isV ?_) | (with_reducible refine all_isRD ?_; intro sx Ax kx cx hvx hwx))
      go_simp
      exact ⟨Only.refl _ _, isV.self _ _⟩
    refine owes2_cons (fun wx hox => ?_) ?_
    · skip
      have hk := HK.out.step hox
      obtain ⟨i0, i1, i2, i3, i4, i5⟩ := hk.c6 1 rfl
      obtain ⟨j0, j1, j2, j3, j4, j5⟩ := hk.c6 0 rfl
      have iva := DV.of (IVL.at (Lib.hid (HI.out.step hox)) 0 rfl)
      have ivb := DV.of (IVL.at (Lib.hid (HI.out.step hox)) 1 rfl)
      have ivc := DV.of (IVL.at (Lib.hid (HI.out.step hox)) 2 rfl)
      have ivd := DV.of (IVL.at (Lib.hid (HI.out.step hox)) 3 rfl)
      clear hk
      refine withs_plain rfl ?_
      simp only [withs, List.getElem?_cons_zero, List.getElem?_cons_succ, Option.bind, Option.getD]
      repeat (first | (with_reducible refine all_isV ?_) | (with_reducible refine all_isRD ?_; intro sx Ax kx cx hvx hwx))
      go_simp
      (with_reducible exact grow_rd (rrefV_d rx Hrx.out iva bx (by omega)))
    refine owes2_cons (fun wx hox => ?_) ?_
    · skip
      skip
      refine withs_plain rfl ?_
      simp only [withs, List.getElem?_cons_zero, List.getElem?_cons_succ, Option.bind, Option.getD]
      repeat (first | (with_reducible refine all_isV ?_) | (with_reducible refine all_isRD ?_; intro sx Ax kx cx hvx hwx))
      go_simp
      exact ⟨Only.refl _ _, isV.self _ _⟩
    refine owes2_cons (fun wx hox => ?_) ?_
    · skip
      have hk := HK.out.step hox
      obtain ⟨i0, i1, i2, i3, i4, i5⟩ := hk.c6 1 rfl
      obtain ⟨j0, j1, j2, j3, j4, j5⟩ := hk.c6 0 rfl
      have iva := DV.of (IVL.at (Lib.hid (HI.out.step hox)) 0 rfl)
      have ivb := DV.of (IVL.at (Lib.hid (HI.out.step hox)) 1 rfl)
      have ivc := DV.of (IVL.at (Lib.hid (HI.out.step hox)) 2 rfl)
      have ivd := DV.of (IVL.at (Lib.hid (HI.out.step hox)) 3 rfl)
      clear hk
      refine withs_plain rfl ?_
      simp only [withs, List.getElem?_cons_zero, List.getElem?_cons_succ, Option.bind, Option.getD]
      repeat (first | (with_reducible refine all_isV ?_) | (with_reducible refine all_isRD ?_; intro sx Ax kx cx hvx hwx))
      go_simp
      exact ⟨Only.refl _ _, isV.self _ _⟩
    refine owes2_cons (fun wx hox => ?_) ?_
    · skip
      have hk := HK.out.step hox
      obtain ⟨i0, i1, i2, i3, i4, i5⟩ := hk.c6 1 rfl
      obtain ⟨j0, j1, j2, j3, j4, j5⟩ := hk.c6 0 rfl
      have iva := DV.of (IVL.at (Lib.hid (HI.out.step hox)) 0 rfl)
      have ivb := DV.of (IVL.at (Lib.hid (HI.out.step hox)) 1 rfl)
      have ivc := DV.of (IVL.at (Lib.hid (HI.out.step hox)) 2 rfl)
      have ivd := DV.of (IVL.at (Lib.hid (HI.out.step hox)) 3 rfl)
      clear hk
      refine withs_plain rfl ?_
      simp only [withs, List.getElem?_cons_zero, List.getElem?_cons_succ, Option.bind, Option.getD]
      repeat (first | (with_reducible refine all_isV ?_) | (with_reducible refine all_isRD ?_; intro sx Ax kx cx hvx hwx))
      go_simp
      (with_reducible exact grow_rd (rrefV_d ru Hru.out ivc bu (by omega)))
    refine owes2_cons (fun wx hox => ?_) ?_
    · skip
      have hk := HK.out.step hox
      obtain ⟨i0, i1, i2, i3, i4, i5⟩ := hk.c6 1 rfl
      obtain ⟨j0, j1, j2, j3, j4, j5⟩ := hk.c6 0 rfl
      have iva := DV.of (IVL.at (Lib.hid (HI.out.step hox)) 0 rfl)
      have ivb := DV.of (IVL.at (Lib.hid (HI.out.step hox)) 1 rfl)
      have ivc := DV.of (IVL.at (Lib.hid (HI.out.step hox)) 2 rfl)
      have ivd := DV.of (IVL.at (Lib.hid (HI.out.step hox)) 3 rfl)
      clear hk
      refine withs_plain rfl ?_
      simp only [withs, List.getElem?_cons_zero, List.getElem?_cons_succ, Option.bind, Option.getD]
      repeat (first | (with_reducible refine all_isV ?_) | (with_reducible refine all_isRD ?_; intro sx Ax kx cx hvx hwx))
      go_simp
      (with_reducible exact grow_of (rcmp_d gm (RD.of (by assumption) (by assumption)) (RD.of (by assumption) (by assumption)) Crx Brx Bru (by omega) Hgm.out))
    refine owes2_cons (fun wx hox => ?_) ?_
    · skip
      skip
      refine withs_plain rfl ?_
      simp only [withs, List.getElem?_cons_zero, List.getElem?_cons_succ, Option.bind, Option.getD]
      repeat (first | (with_reducible refine all_isV ?_) | (with_reducible refine all_isRD ?_; intro sx Ax kx cx hvx hwx))
      go_simp
      exact ⟨Only.refl _ _, isV.self _ _⟩
    refine owes2_cons (fun wx hox => ?_) ?_
    · skip
      skip
      refine withs_plain rfl ?_
      simp only [withs, List.getElem?_cons_zero, List.getElem?_cons_succ, Option.bind, Option.getD]
      repeat (first | (with_reducible refine all_isV ?_) | (with_reducible refine all_isRD ?_; intro sx Ax kx cx hvx hwx))
      go_simp
      exact ⟨Only.refl _ _, isV.self _ _⟩
    refine owes2_cons (fun wx hox => ?_) ?_
    · skip
      skip
      refine withs_guard rfl rfl ?_
      simp only [withs, List.getElem?_cons_zero, List.getElem?_cons_succ, Option.bind, Option.getD]
      repeat (first | (with_reducible refine all_isV ?_) | (with_reducible refine all_isRD ?_; intro sx Ax kx cx hvx hwx))
      refine ⟨by kernel_rfl, ?_⟩
      go_simp
      exact ⟨Only.refl _ _, isV.self _ _⟩
    refine owes2_cons (fun wx hox => ?_) ?_
    · skip
      have hk := HK.out.step hox
      obtain ⟨i0, i1, i2, i3, i4, i5⟩ := hk.c6 1 rfl
      obtain ⟨j0, j1, j2, j3, j4, j5⟩ := hk.c6 0 rfl
      have iva := DV.of (IVL.at (Lib.hid (HI.out.step hox)) 0 rfl)
      have ivb := DV.of (IVL.at (Lib.hid (HI.out.step hox)) 1 rfl)
      have ivc := DV.of (IVL.at (Lib.hid (HI.out.step hox)) 2 rfl)
      have ivd := DV.of (IVL.at (Lib.hid (HI.out.step hox)) 3 rfl)
      clear hk
      refine withs_guard rfl rfl ?_
      simp only [withs, List.getElem?_cons_zero, List.getElem?_cons_succ, Option.bind, Option.getD]
      repeat (first | (with_reducible refine all_isV ?_) | (with_reducible refine all_isRD ?_; intro sx Ax kx cx hvx hwx))
      refine ⟨by kernel_rfl, ?_⟩
      go_simp
      exact ⟨Only.refl _ _, isV.self _ _⟩
    refine owes2_cons (fun wx hox => ?_) ?_
    · skip
      have hk := HK.out.step hox
      obtain ⟨i0, i1, i2, i3, i4, i5⟩ := hk.c6 1 rfl
      obtain ⟨j0, j1, j2, j3, j4, j5⟩ := hk.c6 0 rfl
      have iva := DV.of (IVL.at (Lib.hid (HI.out.step hox)) 0 rfl)
      have ivb := DV.of (IVL.at (Lib.hid (HI.out.step hox)) 1 rfl)
      have ivc := DV.of (IVL.at (Lib.hid (HI.out.step hox)) 2 rfl)
      have ivd := DV.of (IVL.at (Lib.hid (HI.out.step hox)) 3 rfl)
      clear hk
      refine withs_guard rfl rfl ?_
      simp only [withs, List.getElem?_cons_zero, List.getElem?_cons_succ, Option.bind, Option.getD]
      repeat (first | (with_reducible refine all_isV ?_) | (with_reducible refine all_isRD ?_; intro sx Ax kx cx hvx hwx))
      refine ⟨by kernel_rfl, ?_⟩
      go_simp
      (with_reducible exact grow_rd (rrefV_d ry Hry.out ivb by_ (by omega)))
    refine owes2_cons (fun wx hox => ?_) ?_
    · skip
      skip
      refine withs_guard rfl rfl ?_
      simp only [withs, List.getElem?_cons_zero, List.getElem?_cons_succ, Option.bind, Option.getD]
      repeat (first | (with_reducible refine all_isV ?_) | (with_reducible refine all_isRD ?_; intro sx Ax kx cx hvx hwx))
      refine ⟨by kernel_rfl, ?_⟩
      go_simp
      exact ⟨Only.refl _ _, isV.self _ _⟩
    refine owes2_cons (fun wx hox => ?_) ?_
    · skip
      have hk := HK.out.step hox
      obtain ⟨i0, i1, i2, i3, i4, i5⟩ := hk.c6 1 rfl
      obtain ⟨j0, j1, j2, j3, j4, j5⟩ := hk.c6 0 rfl
      have iva := DV.of (IVL.at (Lib.hid (HI.out.step hox)) 0 rfl)
      have ivb := DV.of (IVL.at (Lib.hid (HI.out.step hox)) 1 rfl)
      have ivc := DV.of (IVL.at (Lib.hid (HI.out.step hox)) 2 rfl)
      have ivd := DV.of (IVL.at (Lib.hid (HI.out.step hox)) 3 rfl)
      clear hk
      refine withs_guard rfl rfl ?_
      simp only [withs, List.getElem?_cons_zero, List.getElem?_cons_succ, Option.bind, Option.getD]
      repeat (first | (with_reducible refine all_isV ?_) | (with_reducible refine all_isRD ?_; intro sx Ax kx cx hvx hwx))
      refine ⟨by kernel_rfl, ?_⟩
      go_simp
      exact ⟨Only.refl _ _, isV.self _ _⟩
    refine owes2_cons (fun wx hox => ?_) ?_
    · skip
      have hk := HK.out.step hox
      obtain ⟨i0, i1, i2, i3, i4, i5⟩ := hk.c6 1 rfl
      obtain ⟨j0, j1, j2, j3, j4, j5⟩ := hk.c6 0 rfl
      have iva := DV.of (IVL.at (Lib.hid (HI.out.step hox)) 0 rfl)
      have ivb := DV.of (IVL.at (Lib.hid (HI.out.step hox)) 1 rfl)
      have ivc := DV.of (IVL.at (Lib.hid (HI.out.step hox)) 2 rfl)
      have ivd := DV.of (IVL.at (Lib.hid (HI.out.step hox)) 3 rfl)
      clear hk
      refine withs_guard rfl rfl ?_
      simp only [withs, List.getElem?_cons_zero, List.getElem?_cons_succ, Option.bind, Option.getD]
      repeat (first | (with_reducible refine all_isV ?_) | (with_reducible refine all_isRD ?_; intro sx Ax kx cx hvx hwx))
      refine ⟨by kernel_rfl, ?_⟩
      go_simp
      (with_reducible exact grow_rd (rrefV_d rv Hrv.out ivd bv (by omega)))
    refine owes2_cons (fun wx hox => ?_) ?_
    · skip
      have hk := HK.out.step hox
      obtain ⟨i0, i1, i2, i3, i4, i5⟩ := hk.c6 1 rfl
      obtain ⟨j0, j1, j2, j3, j4, j5⟩ := hk.c6 0 rfl
      have iva := DV.of (IVL.at (Lib.hid (HI.out.step hox)) 0 rfl)
      have ivb := DV.of (IVL.at (Lib.hid (HI.out.step hox)) 1 rfl)
      have ivc := DV.of (IVL.at (Lib.hid (HI.out.step hox)) 2 rfl)
      have ivd := DV.of (IVL.at (Lib.hid (HI.out.step hox)) 3 rfl)
      clear hk
      refine withs_guard rfl rfl ?_
      simp only [withs, List.getElem?_cons_zero, List.getElem?_cons_succ, Option.bind, Option.getD]
      repeat (first | (with_reducible refine all_isV ?_) | (with_reducible refine all_isRD ?_; intro sx Ax kx cx hvx hwx))
      refine ⟨by kernel_rfl, ?_⟩
      go_simp
      (with_reducible exact grow_of (rcmp_d gn (RD.of (by assumption) (by assumption)) (RD.of (by assumption) (by assumption)) Cry Bry Brv (by omega) Hgn.out))
    refine owes2_cons (fun wx hox => ?_) ?_
    · skip
      skip
      refine withs_guard rfl rfl ?_
      simp only [withs, List.getElem?_cons_zero, List.getElem?_cons_succ, Option.bind, Option.getD]
      repeat (first | (with_reducible refine all_isV ?_) | (with_reducible refine all_isRD ?_; intro sx Ax kx cx hvx hwx))
      refine ⟨by kernel_rfl, ?_⟩
      go_simp
      exact ⟨Only.refl _ _, isV.self _ _⟩
    refine owes2_cons (fun wx hox => ?_) ?_
    · skip
      skip
      refine withs_plain rfl ?_
      simp only [withs, List.getElem?_cons_zero, List.getElem?_cons_succ, Option.bind, Option.getD]
      repeat (first | (with_reducible refine all_isV ?_) | (with_reducible refine all_isRD ?_; intro sx Ax kx cx hvx hwx))
      go_simp
      exact ⟨Only.refl _ _, isV.self _ _⟩
    refine owes2_cons (fun wx hox => ?_) ?_
    · skip
      skip
      refine withs_plain rfl ?_
      simp only [withs, List.getElem?_cons_zero, List.getElem?_cons_succ, Option.bind, Option.getD]
      repeat (first | (with_reducible refine all_isV ?_) | (with_reducible refine all_isRD ?_; intro sx Ax kx cx hvx hwx))
      go_simp
      exact ⟨Only.refl _ _, isV.self _ _⟩
    exact owes2_nil
  case he =>
    intro wx hox
    refine withs_of (by simp only [List.length, List.range, List.range.loop]; exact rfl) ?_
    simp only [withs, List.getElem?_cons_zero, List.getElem?_cons_succ, Option.bind, Option.getD]
    repeat (first | (with_reducible refine all_isV ?_) | (with_reducible refine all_isRD ?_; intro sx Ax kx cx hvx hwx))
    go_simp
    replace HK := Lib.hid (HK.out.step hox)
    clear hox
    go_wp2_with fail
    go_ret
    exact ⟨rfl, HK.out.only⟩
  case hl =>
    repeat (refine List.forall_mem_cons.2 ⟨?_, ?_⟩; first | exact isV.lasts _ | exact isRD.lasts _)
    exact fun _ h => (by cases h)
theorem within_b {w : World} {a b : Value} {x y u v : Dy} {N : Nat} (h1 : u.q ≤ x.q) (h2 : y.q ≤ v.q) (ha : Hid (BV w a x y)) (hb : Hid (BV w b u v)) (bx : Hid (Bnd N x)) (by_ : Hid (Bnd N y)) (bu : Hid (Bnd N u)) (bv : Hid (Bnd N v)) (hN : N ≤ 500000) : Calls Tryd.prog 38 #[a, b] w fun e w' => e = .returned (.bool true) ∧ Only [] w w' := by
  refine within_core _ _ ?_ ?_ (Lib.hid rfl) (Lib.hid rfl) (Lib.hid rfl) (Lib.hid rfl) (Lib.hid (nrm_can _ _)) (Lib.hid (nrm_can _ _)) (Lib.hid (bx.out.norm (Nat.le_refl _))) (Lib.hid (by_.out.norm (Nat.le_refl _))) (Lib.hid (bu.out.norm (Nat.le_refl _))) (Lib.hid (bv.out.norm (Nat.le_refl _))) (Lib.hid rfl) (Lib.hid rfl) ha hb bx by_ bu bv hN
  · rw [show (nrm x.z x.e).q = x.q from nrm_q _ _, show (nrm u.z u.e).q = u.q from nrm_q _ _]
    have : ¬ cmpQ x.q u.q < 0 := fun hc => by have := cmpQ_lt0.1 hc; grind
    omega
  · rw [show (nrm y.z y.e).q = y.q from nrm_q _ _, show (nrm v.z v.e).q = v.q from nrm_q _ _]
    exact cmpQ_le.2 h2

end Go.Proofs.YtgiejjpemhceiaaDoor
