/-
  Balls: Sqrt.
-/
import Derived.Test.YtgiejjpemhceiaaDoorTdBlR
namespace Go.Proofs.YtgiejjpemhceiaaDoor
set_option linter.unusedSimpArgs false
open Go.RowKit
set_option maxHeartbeats 8000000 in
set_option maxRecDepth 100000 in
theorem bsqrt_no {w : World} {a : Value} {x y : Dy} (p sy : Int) (HSY : Hid (y.z.sign = sy)) (hy0 : sy < 0) (ha : Hid (BV w a x y)) : Calls Tryd.prog 59 #[a, .int .i64 p] w (QBPost ⟨0, 0⟩ ⟨0, 0⟩ false w) := by
  obtain ⟨s1, A1, k1, c1, t1, B1, m1, d1, rfl, hx1, hy1⟩ := ha.out
  have hk := ((KB.start w).new 51 [.bool s1, .slice A1 k1 c1, .int .i64 x.e, .bool t1, .slice B1 m1 d1, .int .i64 y.e]).new 51 [.bool false, .slice none 0 0, .int .i64 0, .bool false, .slice none 0 0, .int .i64 0]
  simp only [World.size_alloc] at hk
  have hi := ((IVL.nil w).cons hy1).cons hx1
  have HI := Lib.hid (hi.step hk.only)
  have HK := Lib.hid hk
  clear hk hi hx1 hy1 ha
  obtain ⟨j0, j1, j2, j3, j4, j5⟩ := HK.out.c6 1 rfl
  go_enter Tryd.func59, Tryd.ntmps59
  go_wp2_with fail
  (with_reducible refine (signV_d sy (DV.of (IVL.at HI 1 rfl)) HSY.out).mono ?_)
  rintro e w2 ⟨rfl, ho⟩
  replace HK := Lib.hid (HK.out.step ho)
  replace HI := Lib.hid (HI.out.step ho)
  clear ho
  clear j0 j1 j2 j3 j4 j5
  obtain ⟨q0, q1, q2, q3, q4, q5⟩ := HK.out.c6 0 rfl
  obtain ⟨f0, f1, f2, f3, f4, f5⟩ := HK.out.f6 0 rfl
  go_wp2_with fail
  refine bodyPost_ret (v := .tuple #[.agg #[.bool false, .slice none 0 0, .int .i64 (0), .bool false, .slice none 0 0, .int .i64 (0)], .bool false]) (by simp [results, Tryd.results59, go_sem, q0, q1, q2, q3, q4, q5]) rfl ?_
  exact qbfin (x := ⟨0, 0⟩) (y := ⟨0, 0⟩) (Lib.hid cn_zero) (Lib.hid (IV.zero _)) (Lib.hid cn_zero) (Lib.hid (IV.zero _)) (by omega) (HK.out.blk 0 rfl) (noLimb6 _ _ _ _ _ _ _ _ _ _) HK.out.only (only_set6 _ _ _ _ _ _ _ _)
set_option maxHeartbeats 8000000 in
set_option maxRecDepth 100000 in
theorem bsqrt_core {w : World} {a : Value} {x y lo hi x' : Dy} {N : Nat} (p sy sx : Int) (HSY : Hid (y.z.sign = sy)) (hy0 : ¬ sy < 0) (HSX : Hid (x.z.sign = sx)) (HX' : Hid ((sx < 0 → x' = ⟨0, 0⟩) ∧ (¬ sx < 0 → x = x'))) (HLo : Hid (sqrtQ (widthP p) (decide ((0 : Int) ≤ -1)) x' = lo)) (HHi : Hid (sqrtQ (widthP p) (decide ((0 : Int) ≤ 1)) y = hi)) (HOKl : Hid (decide (0 ≤ x'.z) = true)) (HOKh : Hid (decide (0 ≤ y.z) = true))
    (ha : Hid (BV w a x y)) (BL : Hid (Bnd N x')) (by_ : Hid (Bnd N y)) (hN : N ≤ 100000) (hT : Hid (Tab6 w)) : Calls Tryd.prog 59 #[a, .int .i64 p] w (QBPost lo hi true w) := by
  obtain ⟨s1, A1, k1, c1, t1, B1, m1, d1, rfl, hx1, hy1⟩ := ha.out
  have hk := ((KB.start w).new 51 [.bool s1, .slice A1 k1 c1, .int .i64 x.e, .bool t1, .slice B1 m1 d1, .int .i64 y.e]).new 51 [.bool false, .slice none 0 0, .int .i64 0, .bool false, .slice none 0 0, .int .i64 0]
  simp only [World.size_alloc] at hk
  have hi := ((IVL.nil w).cons hy1).cons hx1
  have HI := Lib.hid (hi.step hk.only)
  have HK := Lib.hid hk
  clear hk hi hx1 hy1 ha
  obtain ⟨j0, j1, j2, j3, j4, j5⟩ := HK.out.c6 1 rfl
  go_enter Tryd.func59, Tryd.ntmps59
  go_wp2_with fail
  (with_reducible refine (signV_d sy (DV.of (IVL.at HI 1 rfl)) HSY.out).mono ?_)
  rintro e w2 ⟨rfl, ho⟩
  replace HK := Lib.hid (HK.out.step ho)
  replace HI := Lib.hid (HI.out.step ho)
  clear ho
  clear j0 j1 j2 j3 j4 j5
  obtain ⟨j0, j1, j2, j3, j4, j5⟩ := HK.out.c6 1 rfl
  have hg3 : w.heap.size + 2 ≤ w2.heap.size := by have := (HK.out.blk 0 rfl).lt; omega
  go_upto_region 4 with fail
  have HE := Lib.hid (((DB.start w).step HK.out.only).new (IVL.at HI 0 rfl).out)
  have ho := (Only.refl [] w2).alloc (.cells #[.bool s1, .slice A1 k1 c1, .int .i64 x.e] 37)
  replace HK := Lib.hid (HK.out.step ho)
  replace HI := Lib.hid (HI.out.step ho)
  clear j0 j1 j2 j3 j4 j5
  clear ho
  generalize w2.heap.size = gl at *
  generalize w2.alloc _ = w3 at *
  obtain ⟨i0, i1, i2, -, -, -⟩ := DB.cells HE 0 rfl
  go_wp2_with fail
  (with_reducible refine (signV_d sx (DB.dv HE 0 rfl) HSX.out).mono ?_)
  rintro e w4 ⟨rfl, ho⟩
  replace HE := Lib.hid (HE.out.step ho)
  replace HK := Lib.hid (HK.out.step ho)
  replace HI := Lib.hid (HI.out.step ho)
  clear ho
  clear i0 i1 i2
  go_upto_if 20 with fail
  by_cases hs0 : sx < 0
  · have hxx := HX'.out.1 (by omega)
    subst hxx
    obtain ⟨l0, l1, l2, fl0, fl1, fl2⟩ := DB.cells HE 0 rfl
    go_upto_region 5 with fail
    go_upto_region 6 with fail
    have hput := HE.out.put (x := ⟨0, 0⟩) 0 rfl (IV.zero _)
    have hkf := HK.out.far3 (g := gl) (u := .bool false) (v := .slice none 0 0) (x := .int .i64 0) (fun j y hy => by rcases j with _ | _ | j <;> first | (obtain rfl := (Option.some.inj hy).symm; dsimp only; omega) | simp at hy) (by omega)
    have hif := HI.out.far3 (x := .bool false) (y := .slice none 0 0) (u := .int .i64 0) (HE.out.all 0 _ rfl).1 (noLimb3 _ _ _ _ _)
    clear l0 l1 l2 fl0 fl1 fl2
    clear HE HK HI
    have HE := Lib.hid hput
    have HK := Lib.hid hkf
    have HI := Lib.hid hif
    clear hput hkf hif
    generalize ((w4.setCell _ _).setCell _ _).setCell _ _ = wz at *
    obtain ⟨i0, i1, i2, -, -, -⟩ := DB.cells HE 0 rfl
    go_wp2_with fail
    (with_reducible refine (sqrtV_d p (-1) lo true HLo.out HOKl.out (DB.dv HE 0 rfl) BL (by omega) (Lib.hid (hT.out.keep HK.out.only))).mono ?_)
    rintro e w5 ⟨s5, A5, k5, c5, rfl, hs, hk, hv, ho⟩
    have HC5 : Hid (Cn s5 k5 lo.z) := ⟨hs, hk⟩
    replace HE := Lib.hid ((HE.out.step ho).new hv)
    replace HK := Lib.hid (HK.out.step ho)
    replace HI := Lib.hid (HI.out.step ho)
    clear hs hk hv ho
    clear i0 i1 i2
    have ho := (Only.refl [] w5).alloc (.cells #[.bool s5, .slice A5 k5 c5, .int .i64 lo.e] 37)
    replace HK := Lib.hid (HK.out.step ho)
    replace HI := Lib.hid (HI.out.step ho)
    clear ho
    go_upto_region 7 with fail
    generalize w5.heap.size = g5 at *
    generalize w5.alloc _ = w6 at *
    obtain ⟨j0, j1, j2, j3, j4, j5⟩ := HK.out.c6 1 rfl
    go_wp2_with fail
    (with_reducible refine (sqrtV_d p 1 hi true HHi.out HOKh.out (DV.of (IVL.at HI 1 rfl)) by_ (by omega) (Lib.hid (hT.out.keep HK.out.only))).mono ?_)
    rintro e w7 ⟨s6, A6, k6, c6, rfl, hs, hk, hv, ho⟩
    have HC6 : Hid (Cn s6 k6 hi.z) := ⟨hs, hk⟩
    replace HE := Lib.hid ((HE.out.step ho).new hv)
    replace HK := Lib.hid (HK.out.step ho)
    replace HI := Lib.hid (HI.out.step ho)
    clear hs hk hv ho
    clear j0 j1 j2 j3 j4 j5
    have ho := (Only.refl [] w7).alloc (.cells #[.bool s6, .slice A6 k6 c6, .int .i64 hi.e] 37)
    replace HK := Lib.hid (HK.out.step ho)
    replace HI := Lib.hid (HI.out.step ho)
    clear ho
    go_upto_region 8 with fail
    generalize w7.heap.size = g7 at *
    generalize w7.alloc _ = w8 at *
    obtain ⟨i0, i1, i2, -, -, -⟩ := DB.cells HE 1 rfl
    obtain ⟨l0, l1, l2, -, -, -⟩ := DB.cells HE 0 rfl
    obtain ⟨q0, q1, q2, q3, q4, q5⟩ := HK.out.c6 0 rfl
    obtain ⟨f0, f1, f2, f3, f4, f5⟩ := HK.out.f6 0 rfl
    go_wp2_with fail
    refine bodyPost_ret (v := .tuple #[.agg #[.bool s5, .slice A5 k5 c5, .int .i64 (lo.e), .bool s6, .slice A6 k6 c6, .int .i64 (hi.e)], .bool true]) (by simp [results, Tryd.results59, go_sem, q0, q1, q2, q3, q4, q5]) rfl ?_
    exact qbfin HC5 (DB.iv HE 1 rfl) HC6 (DB.iv HE 0 rfl) (by omega) (HK.out.blk 0 rfl) (noLimb6 _ _ _ _ _ _ _ _ _ _) HK.out.only (only_set6 _ _ _ _ _ _ _ _)
  · have hxx := HX'.out.2 (by omega)
    subst hxx
    obtain ⟨i0, i1, i2, -, -, -⟩ := DB.cells HE 0 rfl
    go_wp2_with fail
    (with_reducible refine (sqrtV_d p (-1) lo true HLo.out HOKl.out (DB.dv HE 0 rfl) BL (by omega) (Lib.hid (hT.out.keep HK.out.only))).mono ?_)
    rintro e w5 ⟨s5, A5, k5, c5, rfl, hs, hk, hv, ho⟩
    have HC5 : Hid (Cn s5 k5 lo.z) := ⟨hs, hk⟩
    replace HE := Lib.hid ((HE.out.step ho).new hv)
    replace HK := Lib.hid (HK.out.step ho)
    replace HI := Lib.hid (HI.out.step ho)
    clear hs hk hv ho
    clear i0 i1 i2
    have ho := (Only.refl [] w5).alloc (.cells #[.bool s5, .slice A5 k5 c5, .int .i64 lo.e] 37)
    replace HK := Lib.hid (HK.out.step ho)
    replace HI := Lib.hid (HI.out.step ho)
    clear ho
    go_upto_region 7 with fail
    generalize w5.heap.size = g5 at *
    generalize w5.alloc _ = w6 at *
    obtain ⟨j0, j1, j2, j3, j4, j5⟩ := HK.out.c6 1 rfl
    go_wp2_with fail
    (with_reducible refine (sqrtV_d p 1 hi true HHi.out HOKh.out (DV.of (IVL.at HI 1 rfl)) by_ (by omega) (Lib.hid (hT.out.keep HK.out.only))).mono ?_)
    rintro e w7 ⟨s6, A6, k6, c6, rfl, hs, hk, hv, ho⟩
    have HC6 : Hid (Cn s6 k6 hi.z) := ⟨hs, hk⟩
    replace HE := Lib.hid ((HE.out.step ho).new hv)
    replace HK := Lib.hid (HK.out.step ho)
    replace HI := Lib.hid (HI.out.step ho)
    clear hs hk hv ho
    clear j0 j1 j2 j3 j4 j5
    have ho := (Only.refl [] w7).alloc (.cells #[.bool s6, .slice A6 k6 c6, .int .i64 hi.e] 37)
    replace HK := Lib.hid (HK.out.step ho)
    replace HI := Lib.hid (HI.out.step ho)
    clear ho
    go_upto_region 8 with fail
    generalize w7.heap.size = g7 at *
    generalize w7.alloc _ = w8 at *
    obtain ⟨i0, i1, i2, -, -, -⟩ := DB.cells HE 1 rfl
    obtain ⟨l0, l1, l2, -, -, -⟩ := DB.cells HE 0 rfl
    obtain ⟨q0, q1, q2, q3, q4, q5⟩ := HK.out.c6 0 rfl
    obtain ⟨f0, f1, f2, f3, f4, f5⟩ := HK.out.f6 0 rfl
    go_wp2_with fail
    refine bodyPost_ret (v := .tuple #[.agg #[.bool s5, .slice A5 k5 c5, .int .i64 (lo.e), .bool s6, .slice A6 k6 c6, .int .i64 (hi.e)], .bool true]) (by simp [results, Tryd.results59, go_sem, q0, q1, q2, q3, q4, q5]) rfl ?_
    exact qbfin HC5 (DB.iv HE 1 rfl) HC6 (DB.iv HE 0 rfl) (by omega) (HK.out.blk 0 rfl) (noLimb6 _ _ _ _ _ _ _ _ _ _) HK.out.only (only_set6 _ _ _ _ _ _ _ _)
theorem bsqrt_b {w : World} {a : Value} {x y lo hi : Dy} {N : Nat} (p : Int) (hy0 : 0 ≤ y.z) (hlo : sqrtQ (widthP p) false (if x.z < 0 then ⟨0, 0⟩ else x) = lo) (hhi : sqrtQ (widthP p) true y = hi) (ha : Hid (BV w a x y)) (bx : Hid (Bnd N x)) (by_ : Hid (Bnd N y)) (hN : N ≤ 100000) (hT : Hid (Tab6 w)) : Calls Tryd.prog 59 #[a, .int .i64 p] w (QBPost lo hi true w) := by
  have sx := sign_of x.z
  have sy := sign_of y.z
  refine bsqrt_core (x' := if x.z < 0 then ⟨0, 0⟩ else x) p _ _ (Lib.hid rfl) (by omega) (Lib.hid rfl) (Lib.hid ⟨fun h => by rw [if_pos (by omega)], fun h => by rw [if_neg (by omega)]⟩) (Lib.hid hlo) (Lib.hid hhi) (Lib.hid ?_) (Lib.hid (by simpa using hy0)) ha (Lib.hid ?_) by_ hN hT
  · split
    · decide
    · simp; omega
  · split
    · exact bnd_zero _
    · exact bx.out

end Go.Proofs.YtgiejjpemhceiaaDoor
