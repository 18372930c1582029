/-
  Joined texts.
-/
import Derived.Test.YtigpnopeacicpaaGreatDoorTrJ25
import Derived.Test.YtigpnopeacicpaaGreatDoorTrGDyP
import Derived.Test.YtigpnopeacicpaaGreatDoorProg
import Derived.Test.YtigpnopeacicpaaGreatDoorTrJ0
import Derived.WalkLawsBesides
import Derived.Test.YtigpnopeacicpaaGreatDoorTrJ19
import Derived.Maps.Own
import Derived.Maps.Views
import Derived.Maps.OwnSet
/-
  Balls: Sqrt.
-/
namespace Go.Proofs.YtigpnopeacicpaaGreatDoor
set_option linter.unusedSimpArgs false
open Go.RowKit
set_option maxHeartbeats 8000000 in
set_option maxRecDepth 100000 in
theorem bsqrt_core {w : World} {a : Value} {x y lo hi x' : Dy} {N : Nat} (p sy sx : Int) (HSY : Hid (y.z.sign = sy)) (hy0 : ¬ sy < 0) (HSX : Hid (x.z.sign = sx)) (HX' : Hid ((sx < 0 → x' = ⟨0, 0⟩) ∧ (¬ sx < 0 → x = x'))) (HLo : Hid (sqrtQ (widthP p) (decide ((0 : Int) ≤ -1)) x' = lo)) (HHi : Hid (sqrtQ (widthP p) (decide ((0 : Int) ≤ 1)) y = hi)) (HOKl : Hid (decide (0 ≤ x'.z) = true)) (HOKh : Hid (decide (0 ≤ y.z) = true))
    (ha : Hid (BV w a x y)) (BL : Hid (Bnd N x')) (by_ : Hid (Bnd N y)) (hN : N ≤ 100000) (hT : Hid (Tab6 w)) : Calls Tryz.prog 12 #[a, .int .i64 p] w (QBPost lo hi true w) := by
  obtain ⟨s1, A1, k1, c1, t1, B1, m1, d1, rfl, hx1, hy1⟩ := ha.out
  have hk := ((KB.start w).new 34 [.bool s1, .slice A1 k1 c1, .int .i64 x.e, .bool t1, .slice B1 m1 d1, .int .i64 y.e]).new 34 [.bool false, .slice none 0 0, .int .i64 0, .bool false, .slice none 0 0, .int .i64 0]
  simp only [World.size_alloc] at hk
  have hi := ((IVL.nil w).cons hy1).cons hx1
  have HI := Lib.hid (hi.step hk.only)
  have HK := Lib.hid hk
  clear hk hi hx1 hy1 ha
  obtain ⟨j0, j1, j2, j3, j4, j5⟩ := HK.out.c6 1 rfl
  go_enter Tryz.func12, Tryz.ntmps12
  go_wp2_with fail
  (with_reducible refine (signV_d sy (DV.of (IVL.at HI 1 rfl)) HSY.out).mono ?_)
  rintro e w2 ⟨rfl, ho⟩
  replace HK := Lib.hid (HK.out.step ho)
  replace HI := Lib.hid (HI.out.step ho)
  clear ho
  clear j0 j1 j2 j3 j4 j5
  obtain ⟨j0, j1, j2, j3, j4, j5⟩ := HK.out.c6 1 rfl
  have hg3 : w.heap.size + 2 ≤ w2.heap.size := by have := (HK.out.blk 0 rfl).lt; omega
  go_upto_region 4 with fail
  have HE := Lib.hid (((DB.start w).step HK.out.only).new (IVL.at HI 0 rfl).out)
  have ho := (Only.refl [] w2).alloc (.cells #[.bool s1, .slice A1 k1 c1, .int .i64 x.e] 32)
  replace HK := Lib.hid (HK.out.step ho)
  replace HI := Lib.hid (HI.out.step ho)
  clear j0 j1 j2 j3 j4 j5
  clear ho
  generalize w2.heap.size = gl at *
  generalize w2.alloc _ = w3 at *
  obtain ⟨i0, i1, i2, -, -, -⟩ := DB.cells HE 0 rfl
  go_wp2_with fail
  (with_reducible refine (signV_d sx (DB.dv HE 0 rfl) HSX.out).mono ?_)
  rintro e w4 ⟨rfl, ho⟩
  replace HE := Lib.hid (HE.out.step ho)
  replace HK := Lib.hid (HK.out.step ho)
  replace HI := Lib.hid (HI.out.step ho)
  clear ho
  clear i0 i1 i2
  go_upto_if 20 with fail
  by_cases hs0 : sx < 0
  · have hxx := HX'.out.1 (by omega)
    subst hxx
    obtain ⟨l0, l1, l2, fl0, fl1, fl2⟩ := DB.cells HE 0 rfl
    go_upto_region 5 with fail
    go_upto_region 6 with fail
    have hput := HE.out.put (x := ⟨0, 0⟩) 0 rfl (IV.zero _)
    have hkf := HK.out.far3 (g := gl) (u := .bool false) (v := .slice none 0 0) (x := .int .i64 0) (fun j y hy => by rcases j with _ | _ | j <;> first | (obtain rfl := (Option.some.inj hy).symm; dsimp only; omega) | simp at hy) (by omega)
    have hif := HI.out.far3 (x := .bool false) (y := .slice none 0 0) (u := .int .i64 0) (HE.out.all 0 _ rfl).1 (noLimb3 _ _ _ _ _)
    clear l0 l1 l2 fl0 fl1 fl2
    clear HE HK HI
    have HE := Lib.hid hput
    have HK := Lib.hid hkf
    have HI := Lib.hid hif
    clear hput hkf hif
    generalize ((w4.setCell _ _).setCell _ _).setCell _ _ = wz at *
    obtain ⟨i0, i1, i2, -, -, -⟩ := DB.cells HE 0 rfl
    go_wp2_with fail
    (with_reducible refine (sqrtV_d p (-1) lo true HLo.out HOKl.out (DB.dv HE 0 rfl) BL (by omega) (Lib.hid (hT.out.keep HK.out.only))).mono ?_)
    rintro e w5 ⟨s5, A5, k5, c5, rfl, hs, hk, hv, ho⟩
    have HC5 : Hid (Cn s5 k5 lo.z) := ⟨hs, hk⟩
    replace HE := Lib.hid ((HE.out.step ho).new hv)
    replace HK := Lib.hid (HK.out.step ho)
    replace HI := Lib.hid (HI.out.step ho)
    clear hs hk hv ho
    clear i0 i1 i2
    have ho := (Only.refl [] w5).alloc (.cells #[.bool s5, .slice A5 k5 c5, .int .i64 lo.e] 32)
    replace HK := Lib.hid (HK.out.step ho)
    replace HI := Lib.hid (HI.out.step ho)
    clear ho
    go_upto_region 7 with fail
    generalize w5.heap.size = g5 at *
    generalize w5.alloc _ = w6 at *
    obtain ⟨j0, j1, j2, j3, j4, j5⟩ := HK.out.c6 1 rfl
    go_wp2_with fail
    (with_reducible refine (sqrtV_d p 1 hi true HHi.out HOKh.out (DV.of (IVL.at HI 1 rfl)) by_ (by omega) (Lib.hid (hT.out.keep HK.out.only))).mono ?_)
    rintro e w7 ⟨s6, A6, k6, c6, rfl, hs, hk, hv, ho⟩
    have HC6 : Hid (Cn s6 k6 hi.z) := ⟨hs, hk⟩
    replace HE := Lib.hid ((HE.out.step ho).new hv)
    replace HK := Lib.hid (HK.out.step ho)
    replace HI := Lib.hid (HI.out.step ho)
    clear hs hk hv ho
    clear j0 j1 j2 j3 j4 j5
    have ho := (Only.refl [] w7).alloc (.cells #[.bool s6, .slice A6 k6 c6, .int .i64 hi.e] 32)
    replace HK := Lib.hid (HK.out.step ho)
    replace HI := Lib.hid (HI.out.step ho)
    clear ho
    go_upto_region 8 with fail
    generalize w7.heap.size = g7 at *
    generalize w7.alloc _ = w8 at *
    obtain ⟨i0, i1, i2, -, -, -⟩ := DB.cells HE 1 rfl
    obtain ⟨l0, l1, l2, -, -, -⟩ := DB.cells HE 0 rfl
    obtain ⟨q0, q1, q2, q3, q4, q5⟩ := HK.out.c6 0 rfl
    obtain ⟨f0, f1, f2, f3, f4, f5⟩ := HK.out.f6 0 rfl
    go_wp2_with fail
    refine bodyPost_ret (v := .tuple #[.agg #[.bool s5, .slice A5 k5 c5, .int .i64 (lo.e), .bool s6, .slice A6 k6 c6, .int .i64 (hi.e)], .bool true]) (by simp [results, Tryz.results12, go_sem, q0, q1, q2, q3, q4, q5]) rfl ?_
    exact qbfin HC5 (DB.iv HE 1 rfl) HC6 (DB.iv HE 0 rfl) (by omega) (HK.out.blk 0 rfl) (noLimb6 _ _ _ _ _ _ _ _ _ _) HK.out.only (only_set6 _ _ _ _ _ _ _ _)
  · have hxx := HX'.out.2 (by omega)
    subst hxx
    obtain ⟨i0, i1, i2, -, -, -⟩ := DB.cells HE 0 rfl
    go_wp2_with fail
    (with_reducible refine (sqrtV_d p (-1) lo true HLo.out HOKl.out (DB.dv HE 0 rfl) BL (by omega) (Lib.hid (hT.out.keep HK.out.only))).mono ?_)
    rintro e w5 ⟨s5, A5, k5, c5, rfl, hs, hk, hv, ho⟩
    have HC5 : Hid (Cn s5 k5 lo.z) := ⟨hs, hk⟩
    replace HE := Lib.hid ((HE.out.step ho).new hv)
    replace HK := Lib.hid (HK.out.step ho)
    replace HI := Lib.hid (HI.out.step ho)
    clear hs hk hv ho
    clear i0 i1 i2
    have ho := (Only.refl [] w5).alloc (.cells #[.bool s5, .slice A5 k5 c5, .int .i64 lo.e] 32)
    replace HK := Lib.hid (HK.out.step ho)
    replace HI := Lib.hid (HI.out.step ho)
    clear ho
    go_upto_region 7 with fail
    generalize w5.heap.size = g5 at *
    generalize w5.alloc _ = w6 at *
    obtain ⟨j0, j1, j2, j3, j4, j5⟩ := HK.out.c6 1 rfl
    go_wp2_with fail
    (with_reducible refine (sqrtV_d p 1 hi true HHi.out HOKh.out (DV.of (IVL.at HI 1 rfl)) by_ (by omega) (Lib.hid (hT.out.keep HK.out.only))).mono ?_)
    rintro e w7 ⟨s6, A6, k6, c6, rfl, hs, hk, hv, ho⟩
    have HC6 : Hid (Cn s6 k6 hi.z) := ⟨hs, hk⟩
    replace HE := Lib.hid ((HE.out.step ho).new hv)
    replace HK := Lib.hid (HK.out.step ho)
    replace HI := Lib.hid (HI.out.step ho)
    clear hs hk hv ho
    clear j0 j1 j2 j3 j4 j5
    have ho := (Only.refl [] w7).alloc (.cells #[.bool s6, .slice A6 k6 c6, .int .i64 hi.e] 32)
    replace HK := Lib.hid (HK.out.step ho)
    replace HI := Lib.hid (HI.out.step ho)
    clear ho
    go_upto_region 8 with fail
    generalize w7.heap.size = g7 at *
    generalize w7.alloc _ = w8 at *
    obtain ⟨i0, i1, i2, -, -, -⟩ := DB.cells HE 1 rfl
    obtain ⟨l0, l1, l2, -, -, -⟩ := DB.cells HE 0 rfl
    obtain ⟨q0, q1, q2, q3, q4, q5⟩ := HK.out.c6 0 rfl
    obtain ⟨f0, f1, f2, f3, f4, f5⟩ := HK.out.f6 0 rfl
    go_wp2_with fail
    refine bodyPost_ret (v := .tuple #[.agg #[.bool s5, .slice A5 k5 c5, .int .i64 (lo.e), .bool s6, .slice A6 k6 c6, .int .i64 (hi.e)], .bool true]) (by simp [results, Tryz.results12, go_sem, q0, q1, q2, q3, q4, q5]) rfl ?_
    exact qbfin HC5 (DB.iv HE 1 rfl) HC6 (DB.iv HE 0 rfl) (by omega) (HK.out.blk 0 rfl) (noLimb6 _ _ _ _ _ _ _ _ _ _) HK.out.only (only_set6 _ _ _ _ _ _ _ _)
theorem bsqrt_b {w : World} {a : Value} {x y lo hi : Dy} {N : Nat} (p : Int) (hy0 : 0 ≤ y.z) (hlo : sqrtQ (widthP p) false (if x.z < 0 then ⟨0, 0⟩ else x) = lo) (hhi : sqrtQ (widthP p) true y = hi) (ha : Hid (BV w a x y)) (bx : Hid (Bnd N x)) (by_ : Hid (Bnd N y)) (hN : N ≤ 100000) (hT : Hid (Tab6 w)) : Calls Tryz.prog 12 #[a, .int .i64 p] w (QBPost lo hi true w) := by
  have sx := sign_of x.z
  have sy := sign_of y.z
  refine bsqrt_core (x' := if x.z < 0 then ⟨0, 0⟩ else x) p _ _ (Lib.hid rfl) (by omega) (Lib.hid rfl) (Lib.hid ⟨fun h => by rw [if_pos (by omega)], fun h => by rw [if_neg (by omega)]⟩) (Lib.hid hlo) (Lib.hid hhi) (Lib.hid ?_) (Lib.hid (by simpa using hy0)) ha (Lib.hid ?_) by_ hN hT
  · split
    · decide
    · simp; omega
  · split
    · exact bnd_zero _
    · exact bx.out

end Go.Proofs.YtigpnopeacicpaaGreatDoor

/-
  Balls in boxes: a list of boxes at hand, each with a ball in it; balls as values of a typed region.
-/
namespace Go.Proofs.YtigpnopeacicpaaGreatDoor
set_option linter.unusedSimpArgs false
open Go.RowKit

structure YX where
  g : Nat
  s : Bool
  a : Option Addr
  k : Nat
  c : Nat
  t : Bool
  b : Option Addr
  m : Nat
  d : Nat
  x : Dy
  y : Dy
def YX.cs (b : YX) : List Value := [.bool b.s, .slice b.a b.k b.c, .int .i64 b.x.e, .bool b.t, .slice b.b b.m b.d, .int .i64 b.y.e]
def YX.ok (w : World) (b : YX) : Prop := Blk w b.g 34 b.cs ∧ IV w (.agg #[.bool b.s, .slice b.a b.k b.c]) b.x.z ∧ IV w (.agg #[.bool b.t, .slice b.b b.m b.d]) b.y.z
structure YB (w0 w : World) (L : List YX) : Prop where
  only : Only [] w0 w
  all : ∀ (i : Nat) (x : YX), L[i]? = some x → YX.ok w x
  base : ∀ (i : Nat) (x : YX), L[i]? = some x → w0.heap.size ≤ x.g
  ne : ∀ (i j : Nat) (x y : YX), i ≠ j → L[i]? = some x → L[j]? = some y → x.g ≠ y.g
theorem YB.step {w0 w w' : World} {L : List YX} (h : YB w0 w L) (ho : Only [] w w') : YB w0 w' L := ⟨h.only.nil_trans ho, fun i x hx => ⟨(h.all i x hx).1.only ho (by simp), (h.all i x hx).2.1.only ho, (h.all i x hx).2.2.only ho⟩, h.base, h.ne⟩
theorem YB.new {w0 w : World} {L : List YX} (h : YB w0 w L) {s t : Bool} {A B : Option Addr} {k c m d : Nat} {x y : Dy} (hv : IV w (.agg #[.bool s, .slice A k c]) x.z) (hv' : IV w (.agg #[.bool t, .slice B m d]) y.z) :
    YB w0 (w.alloc (.cells #[.bool s, .slice A k c, .int .i64 x.e, .bool t, .slice B m d, .int .i64 y.e] 34)) (⟨w.heap.size, s, A, k, c, t, B, m, d, x, y⟩ :: L) := by
  have ho : Only [] w (w.alloc (.cells #[.bool s, .slice A k c, .int .i64 x.e, .bool t, .slice B m d, .int .i64 y.e] 34)) := (Only.refl [] w).alloc _
  have h' := h.step ho
  refine ⟨h'.only, fun i y hy => ?_, fun i y hy => ?_, fun i j y z hij hy hz => ?_⟩
  · rcases i with _ | i
    · obtain rfl := (Option.some.inj hy).symm
      exact ⟨Blk.new w _ _, hv.only ho, hv'.only ho⟩
    · exact h'.all i y hy
  · rcases i with _ | i
    · obtain rfl := (Option.some.inj hy).symm
      exact h.only.size
    · exact h.base i y hy
  · rcases i with _ | i
    · rcases j with _ | j
      · omega
      · obtain rfl := (Option.some.inj hy).symm
        have := (h.all j z hz).1.lt
        show w.heap.size ≠ z.g
        omega
    · rcases j with _ | j
      · obtain rfl := (Option.some.inj hz).symm
        have := (h.all i y hy).1.lt
        show y.g ≠ w.heap.size
        omega
      · exact h.ne i j y z (by omega) hy hz
theorem YB.cells {w0 w : World} {L : List YX} (h : Hid (YB w0 w L)) (i : Nat) {g : Nat} {s t : Bool} {A B : Option Addr} {k c m d : Nat} {x y : Dy} (hi : L[i]? = some ⟨g, s, A, k, c, t, B, m, d, x, y⟩) :
    w.cell? ⟨g, 0, none⟩ = some (.bool s) ∧ w.cell? ⟨g, 1, none⟩ = some (.slice A k c) ∧ w.cell? ⟨g, 2, none⟩ = some (.int .i64 x.e) ∧ w.cell? ⟨g, 3, none⟩ = some (.bool t) ∧ w.cell? ⟨g, 4, none⟩ = some (.slice B m d) ∧ w.cell? ⟨g, 5, none⟩ = some (.int .i64 y.e) :=
  have hb := (h.out.all i _ hi).1
  ⟨hb.cell 0, hb.cell 1, hb.cell 2, hb.cell 3, hb.cell 4, hb.cell 5⟩
theorem YB.bv {w0 w : World} {L : List YX} (h : Hid (YB w0 w L)) (i : Nat) {g : Nat} {s t : Bool} {A B : Option Addr} {k c m d : Nat} {x y : Dy} (hi : L[i]? = some ⟨g, s, A, k, c, t, B, m, d, x, y⟩) : Hid (BV w (.agg #[.bool s, .slice A k c, .int .i64 x.e, .bool t, .slice B m d, .int .i64 y.e]) x y) :=
  have hb := (h.out.all i _ hi).2
  Lib.hid ⟨s, A, k, c, t, B, m, d, rfl, hb.1, hb.2⟩
theorem YB.lo {w0 w : World} {L : List YX} (h : Hid (YB w0 w L)) (i : Nat) {g : Nat} {s t : Bool} {A B : Option Addr} {k c m d : Nat} {x y : Dy} (hi : L[i]? = some ⟨g, s, A, k, c, t, B, m, d, x, y⟩) : Hid (DV w (.agg #[.bool s, .slice A k c, .int .i64 x.e]) x) := DV.of (Lib.hid (h.out.all i _ hi).2.1)
theorem YB.hi {w0 w : World} {L : List YX} (h : Hid (YB w0 w L)) (i : Nat) {g : Nat} {s t : Bool} {A B : Option Addr} {k c m d : Nat} {x y : Dy} (hi : L[i]? = some ⟨g, s, A, k, c, t, B, m, d, x, y⟩) : Hid (DV w (.agg #[.bool t, .slice B m d, .int .i64 y.e]) y) := DV.of (Lib.hid (h.out.all i _ hi).2.2)

/-! ### Balls as values -/
def isB (x y : Dy) : VP := fun v w => BV w v x y
theorem isB.lasts (x y : Dy) : Lasts (isB x y) := fun _ _ _ h ho => h.only ho
theorem all_isB {x y : Dy} {w : World} {K : Value → Prop} (h : ∀ s A k c t B m d, Hid (IV w (.agg #[.bool s, .slice A k c]) x.z) → Hid (IV w (.agg #[.bool t, .slice B m d]) y.z) → K (.agg #[.bool s, .slice A k c, .int .i64 x.e, .bool t, .slice B m d, .int .i64 y.e])) : ∀ v, isB x y v w → K v := fun v ⟨s, A, k, c, t, B, m, d, h1, h2, h3⟩ => by
  subst h1
  exact h s A k c t B m d h2 h3
theorem BV.of {w : World} {x y : Dy} {s t : Bool} {A B : Option Addr} {k c m d : Nat} (h : Hid (IV w (.agg #[.bool s, .slice A k c]) x.z)) (h' : Hid (IV w (.agg #[.bool t, .slice B m d]) y.z)) : Hid (BV w (.agg #[.bool s, .slice A k c, .int .i64 x.e, .bool t, .slice B m d, .int .i64 y.e]) x y) := ⟨s, A, k, c, t, B, m, d, rfl, h.out, h'.out⟩
end Go.Proofs.YtigpnopeacicpaaGreatDoor

/-
  Floats, plain: a word is a sign and a rung; what a rung is worth; the nearest word is one of the two rungs beside a number.
-/
namespace Go.Proofs.YtigpnopeacicpaaGreatDoor
set_option linter.unusedSimpArgs false

namespace Fl
def NR (r : Nat) : Nat := if r < 4503599627370496 then r else (4503599627370496 + r % 4503599627370496) * 2 ^ (r / 4503599627370496 - 1)
abbrev INF : Nat := 9218868437227405312
theorem NR_base (E k : Nat) (h1 : 4503599627370496 ≤ k) (h2 : k ≤ 9007199254740992) : NR (E * 4503599627370496 + k) = k * 2 ^ E := by
  unfold NR
  rw [if_neg (by omega)]
  by_cases h : k = 9007199254740992
  · subst h
    rw [show (E * 4503599627370496 + 9007199254740992) % 4503599627370496 = 0 by omega, show (E * 4503599627370496 + 9007199254740992) / 4503599627370496 - 1 = E + 1 by omega, Nat.pow_succ]
    omega
  · rw [show (E * 4503599627370496 + k) % 4503599627370496 = k - 4503599627370496 by omega, show (E * 4503599627370496 + k) / 4503599627370496 - 1 = E by omega, show 4503599627370496 + (k - 4503599627370496) = k by omega]
theorem NR_low {k : Nat} (h : k ≤ 9007199254740992) : NR k = k := by
  by_cases h0 : k < 4503599627370496
  · unfold NR; rw [if_pos h0]
  · have := NR_base 0 k (by omega) h
    simpa using this
theorem NR_split (r : Nat) (h : 4503599627370496 ≤ r) : ∃ E k, r = E * 4503599627370496 + k ∧ 4503599627370496 ≤ k ∧ k < 9007199254740992 :=
  ⟨r / 4503599627370496 - 1, 4503599627370496 + r % 4503599627370496, by omega, by omega, by omega⟩
theorem NR_succ (r : Nat) : NR r < NR (r + 1) := by
  by_cases h : r < 4503599627370496
  · rw [NR_low (by omega), NR_low (by omega)]; omega
  · obtain ⟨E, k, rfl, h1, h2⟩ := NR_split r (by omega)
    rw [NR_base E k h1 (by omega), show E * 4503599627370496 + k + 1 = E * 4503599627370496 + (k + 1) by omega, NR_base E (k + 1) (by omega) (by omega)]
    have : 0 < 2 ^ E := Nat.pow_pos (by omega)
    rw [Nat.succ_mul]
    omega
theorem NR_mono {r s : Nat} (h : r ≤ s) : NR r ≤ NR s := by
  induction s with
  | zero => obtain rfl : r = 0 := by omega
            exact Nat.le_refl _
  | succ s ih =>
    rcases Nat.lt_or_ge r (s + 1) with h1 | h1
    · exact Nat.le_trans (ih (by omega)) (Nat.le_of_lt (NR_succ s))
    · obtain rfl : r = s + 1 := by omega
      exact Nat.le_refl _
theorem NR_lt_iff {r s : Nat} : NR r < NR s ↔ r < s := by
  constructor
  · intro h
    apply Decidable.byContradiction
    intro hc
    have := NR_mono (show s ≤ r by omega)
    omega
  · intro h
    exact Nat.lt_of_lt_of_le (NR_succ r) (NR_mono h)
def wordB (neg : Bool) (r : Nat) : Nat := if neg then 9223372036854775808 + r else r
theorem word_eq (neg : Bool) (r : Nat) : Ieee.double.word neg r = wordB neg r := by
  unfold Ieee.Format.word wordB
  rw [show Ieee.double.signWeight = 9223372036854775808 by decide]
theorem nearest_rung (neg : Bool) {mag : Nat} (place : Int) (hm : mag ≠ 0) : ∃ f rr, Ieee.double.nearest neg mag place = wordB neg (min rr INF) ∧ NR f * 2 ^ (-1074 - place).toNat ≤ mag * 2 ^ (place + 1074).toNat ∧ mag * 2 ^ (place + 1074).toNat < NR (f + 1) * 2 ^ (-1074 - place).toNat ∧ (rr = f ∨ (rr = f + 1 ∧ NR f * 2 ^ (-1074 - place).toNat < mag * 2 ^ (place + 1074).toNat)) := by
  have hlog := Nat.log2_self_le hm
  have hlog2 := Nat.lt_log2_self (n := mag)
  obtain ⟨last, hlast⟩ : ∃ last, max (place + (Nat.log2 mag : Int) - 52) (-1074) = last := ⟨_, rfl⟩
  obtain ⟨n, hn⟩ : ∃ n, mag * 2 ^ (place - last).toNat = n := ⟨_, rfl⟩
  obtain ⟨drop, hdrop⟩ : ∃ d, (last - place).toNat = d := ⟨_, rfl⟩
  have hn0 : n ≠ 0 := by rw [← hn]; exact Nat.mul_ne_zero hm (Nat.pos_iff_ne_zero.1 (Nat.pow_pos (by omega)))
  -- the cut
  have hcut : ∃ more : Bool, Ieee.Toward.even.cut neg n drop = n / 2 ^ drop + more.toNat ∧ (more = true → n % 2 ^ drop ≠ 0) := by
    unfold Ieee.Toward.cut
    simp only [Nat.one_shiftLeft]
    have hg : n / 2 ^ min drop (Nat.log2 n + 2) = n / 2 ^ drop ∧ n % 2 ^ min drop (Nat.log2 n + 2) = n % 2 ^ drop := by
      by_cases h : drop ≤ Nat.log2 n + 2
      · rw [Nat.min_eq_left h]; exact ⟨rfl, rfl⟩
      · have h1 : n < 2 ^ (Nat.log2 n + 2) := Nat.lt_of_lt_of_le (Nat.lt_log2_self (n := n)) (two_mono (by omega))
        have h2 : n < 2 ^ drop := Nat.lt_of_lt_of_le h1 (two_mono (by omega))
        rw [Nat.min_eq_right (by omega), Nat.div_eq_of_lt h1, Nat.div_eq_of_lt h2, Nat.mod_eq_of_lt h1, Nat.mod_eq_of_lt h2]
        exact ⟨rfl, rfl⟩
    rw [hg.1]
    refine ⟨_, rfl, fun h => ?_⟩
    have hp : 0 < 2 ^ min drop (Nat.log2 n + 2) := Nat.pow_pos (by omega)
    rw [← hg.2]
    generalize n % 2 ^ min drop (Nat.log2 n + 2) = rest at *
    generalize 2 ^ min drop (Nat.log2 n + 2) = gap at *
    rintro rfl
    simp at h
    omega
  obtain ⟨more, hc1, hc2⟩ := hcut
  obtain ⟨low, hlow⟩ : ∃ low, n / 2 ^ drop = low := ⟨_, rfl⟩
  have hp : 0 < 2 ^ drop := Nat.pow_pos (by omega)
  have hd := Nat.div_add_mod n (2 ^ drop)
  have hr := Nat.mod_lt n hp
  rw [hlow] at hc1 hd
  generalize hrest : n % 2 ^ drop = rest at *
  obtain ⟨L, hL⟩ : ∃ L : Nat, last + 1074 = (L : Int) := ⟨(last + 1074).toNat, by omega⟩
  -- how great the part is that is kept
  have hl2 : low < 9007199254740992 := by
    rw [← hlow, Nat.div_lt_iff_lt_mul hp, ← hn, show (9007199254740992 : Nat) = 2 ^ 53 by decide, ← Nat.pow_add]
    have h1 : mag * 2 ^ (place - last).toNat < 2 ^ (Nat.log2 mag + 1) * 2 ^ (place - last).toNat := Nat.mul_lt_mul_of_pos_right hlog2 (Nat.pow_pos (by omega))
    rw [← Nat.pow_add] at h1
    exact Nat.lt_of_lt_of_le h1 (two_mono (by omega))
  have hl1 : L ≠ 0 → 4503599627370496 ≤ low := by
    intro h
    rw [← hlow, Nat.le_div_iff_mul_le hp, ← hn, show (4503599627370496 : Nat) = 2 ^ 52 by decide, ← Nat.pow_add]
    have h1 : 2 ^ Nat.log2 mag * 2 ^ (place - last).toNat ≤ mag * 2 ^ (place - last).toNat := Nat.mul_le_mul_right _ hlog
    rw [← Nat.pow_add] at h1
    exact Nat.le_trans (two_mono (by omega)) h1
  have hN : ∀ k, k ≤ low + 1 → low ≤ k → NR (L * 4503599627370496 + k) = k * 2 ^ L := by
    intro k h1 h2
    by_cases h0 : L = 0
    · subst h0
      rw [Nat.zero_mul, Nat.zero_add, NR_low (by omega)]
      simp
    · exact NR_base L k (by have := hl1 h0; omega) (by omega)
  have hsum : L + (-1074 - place).toNat + (place - last).toNat = (place + 1074).toNat + drop := by omega
  have hprod : mag * 2 ^ (place + 1074).toNat * 2 ^ drop = n * 2 ^ (L + (-1074 - place).toNat) := by
    rw [← hn, Nat.mul_assoc, Nat.mul_assoc, ← Nat.pow_add, ← Nat.pow_add]
    congr 2
    omega
  have hX : ∀ k : Nat, k * 2 ^ L * 2 ^ (-1074 - place).toNat * 2 ^ drop = k * 2 ^ drop * 2 ^ (L + (-1074 - place).toNat) := by
    intro k
    rw [Nat.pow_add]
    ac_rfl
  have hq : 0 < 2 ^ (L + (-1074 - place).toNat) := Nat.pow_pos (by omega)
  have key : ∀ k : Nat, (k * 2 ^ drop ≤ n → k * 2 ^ L * 2 ^ (-1074 - place).toNat ≤ mag * 2 ^ (place + 1074).toNat) ∧ (n < k * 2 ^ drop → mag * 2 ^ (place + 1074).toNat < k * 2 ^ L * 2 ^ (-1074 - place).toNat) ∧ (k * 2 ^ drop < n → k * 2 ^ L * 2 ^ (-1074 - place).toNat < mag * 2 ^ (place + 1074).toNat) := by
    intro k
    refine ⟨fun h => ?_, fun h => ?_, fun h => ?_⟩
    · apply Nat.le_of_mul_le_mul_right _ hp
      rw [hX, hprod]
      exact Nat.mul_le_mul_right _ h
    · apply Nat.lt_of_mul_lt_mul_right (a := 2 ^ drop)
      rw [hX, hprod]
      exact Nat.mul_lt_mul_of_pos_right h hq
    · apply Nat.lt_of_mul_lt_mul_right (a := 2 ^ drop)
      rw [hX, hprod]
      exact Nat.mul_lt_mul_of_pos_right h hq
  rw [Nat.mul_comm] at hd
  obtain ⟨f, hf⟩ : ∃ f, L * 4503599627370496 + low = f := ⟨_, rfl⟩
  have hNf : NR f = low * 2 ^ L := by rw [← hf]; exact hN low (by omega) (Nat.le_refl _)
  have hNf1 : NR (f + 1) = (low + 1) * 2 ^ L := by
    have h := hN (low + 1) (Nat.le_refl _) (by omega)
    rw [← Nat.add_assoc, hf] at h
    exact h
  have hmin : (last - -1074).toNat * 4503599627370496 + (low + more.toNat) = f + more.toNat := by rw [show (last - -1074).toNat = L by omega, ← Nat.add_assoc, hf]
  clear hN hl1 hl2 hX
  refine ⟨f, f + more.toNat, ?_, ?_, ?_, ?_⟩
  · unfold Ieee.Format.nearest
    rw [if_neg hm, word_eq]
    simp only [show ((Ieee.double.fractionBits : Nat) : Int) = 52 by decide, show Ieee.double.leastPlace = -1074 by decide, show Ieee.double.binade = 4503599627370496 by decide, show Ieee.double.infRung = 9218868437227405312 by decide, hlast, Nat.shiftLeft_eq, hn, hdrop, hc1, hmin]
  · rw [hNf]
    exact (key low).1 (by omega)
  · rw [hNf1]
    exact (key (low + 1)).2.1 (by rw [Nat.succ_mul]; omega)
  · cases more
    · left; rfl
    · right
      refine ⟨rfl, ?_⟩
      rw [hNf]
      have := hc2 rfl
      exact (key low).2.2 (by omega)
end Fl
end Go.Proofs.YtigpnopeacicpaaGreatDoor

/-
  Floats, plain: the dyad of a word, the order of words, and what flo.Float tells: the word beside a dyad.
-/
namespace Go.Proofs.YtigpnopeacicpaaGreatDoor
set_option linter.unusedSimpArgs false

namespace Fl
def mantW (r : Nat) : Nat := if r < 4503599627370496 then r else 4503599627370496 + r % 4503599627370496
def expoW (r : Nat) : Nat := r / 4503599627370496 - 1
theorem mant_expo (r : Nat) : mantW r * 2 ^ expoW r = NR r := by
  unfold mantW expoW NR
  by_cases h : r < 4503599627370496
  · rw [if_pos h, if_pos h, Nat.div_eq_of_lt h]; simp
  · rw [if_neg h, if_neg h]
def fD (neg : Bool) (r : Nat) : Dy := nrm (sg neg (mantW r)) ((expoW r : Int) - 1074)
theorem sg_pow (s : Bool) (n k : Nat) : sg s n * 2 ^ k = sg s (n * 2 ^ k) := by cases s <;> simp [sg, Int.neg_mul]
theorem fD_q (neg : Bool) (r : Nat) : (fD neg r).q = ((sg neg (NR r) : Int) : Rat) * p2 (-1074) := by
  unfold fD
  rw [nrm_q, ← mant_expo r, ← sg_pow, show (-1074 : Int) = ((expoW r : Int) - 1074) - (expoW r : Int) by omega, q_down]
theorem fD_can (neg : Bool) (r : Nat) : Can (fD neg r) := nrm_can _ _

end Fl
end Go.Proofs.YtigpnopeacicpaaGreatDoor

/-
  Package flo by value: Finite, Step, beyond, within; math.IsNaN, IsInf, Inf.
-/
namespace Go.Proofs.YtigpnopeacicpaaGreatDoor
set_option linter.unusedSimpArgs false
open Go.RowKit

namespace Fl

theorem word_lt (s : Bool) {r : Nat} (h : r < 9223372036854775808) : wordB s r < 18446744073709551616 := by cases s <;> simp [wordB] <;> omega

def finB (f : Nat) : Bool := decide (f / 4503599627370496 % 2048 ≠ 2047)

theorem fin_arith (b : Nat) (hb : b < 18446744073709551616) : (bits BinOp.and IntKind.u64 ((b : Int) / 4503599627370496) 2047 != 2047) = finB b := by
  have e1 : ((b : Int) / 4503599627370496) = ((b / 4503599627370496 : Nat) : Int) := by omega
  have h1 : bits BinOp.and IntKind.u64 ((b / 4503599627370496 : Nat) : Int) ((2047 : Nat) : Int) = (((b / 4503599627370496) &&& 2047 : Nat) : Int) := bits_and_u64_nat _ _ (by omega) (by omega)
  rw [e1, show (2047 : Int) = ((2047 : Nat) : Int) from rfl, h1]
  have h2 : (b / 4503599627370496) &&& 2047 = (b / 4503599627370496) % 2048 := Nat.and_two_pow_sub_one_eq_mod _ 11
  rw [h2]
  unfold finB
  rw [Bool.eq_iff_iff]
  simp
  omega

theorem fin_word (s : Bool) {r : Nat} (h : r < 9223372036854775808) : finB (wordB s r) = decide (r < INF) := by
  unfold finB
  rw [Bool.eq_iff_iff]
  cases s <;> simp [wordB, INF] <;> omega

theorem bits_run (n : Nat) (w : World) : (callFunc 161 #[.float .f64 n]).run Tryz.prog w = .ok (.value (.int .u64 (n : Int))) w := by kernel_rfl

set_option maxHeartbeats 400000 in
theorem finite_any (b : Nat) (hb : b < 18446744073709551616) (w : World) :
    Calls Tryz.prog 160 #[.float .f64 b] w fun e w' => e = .returned (.bool (finB b)) ∧ w = w' := by
  have h := bits_run
  have hf := Lib.hid (fin_arith b hb)
  clear hb
  go_enter Tryz.func160, Tryz.ntmps160
  go_wp2
  go_ret
  exact ⟨by simp [hf.out], rfl⟩

end Fl

end Go.Proofs.YtigpnopeacicpaaGreatDoor

/-
  Package flo by value: Dyad, beyond, within, exact, Float.
-/
namespace Go.Proofs.YtigpnopeacicpaaGreatDoor
set_option linter.unusedSimpArgs false
open Go.RowKit

namespace Fl

theorem word_parts_bits (s : Bool) {r : Nat} (h : r < 9223372036854775808) : bits .and .u64 ((wordB s r : Nat) : Int) 4503599627370495 = ((r % 4503599627370496 : Nat) : Int) ∧ bits .and .u64 ((wordB s r : Nat) : Int) 9223372036854775808 = (if s then 9223372036854775808 else 0) ∧ bits .and .u64 (((wordB s r : Nat) : Int) / 4503599627370496) 2047 = ((r / 4503599627370496 : Nat) : Int) := by
  have hv := word_lt s h
  refine ⟨?_, ?_, ?_⟩
  · have h1 := bits_and_u64_nat (wordB s r) 4503599627370495 hv (by omega)
    rw [show (4503599627370495 : Int) = ((4503599627370495 : Nat) : Int) from rfl, h1, show (4503599627370495 : Nat) = 2 ^ 52 - 1 by decide, Nat.and_two_pow_sub_one_eq_mod]
    cases s <;> simp only [wordB, Bool.false_eq_true, if_false, if_true] <;> congr 1 <;> omega
  · have h1 := bits_and_u64_nat (wordB s r) 9223372036854775808 hv (by omega)
    rw [show (9223372036854775808 : Int) = ((9223372036854775808 : Nat) : Int) from rfl, h1]
    cases s
    · simp only [wordB, Bool.false_eq_true, if_false]
      have h0 : r &&& 9223372036854775808 = 0 := by
        apply Nat.eq_of_testBit_eq
        intro i
        rw [Nat.testBit_and, show (9223372036854775808 : Nat) = 2 ^ 63 by decide, Nat.testBit_two_pow, Nat.zero_testBit]
        by_cases hi : 63 = i
        · subst hi; rw [Nat.testBit_lt_two_pow (by omega)]; rfl
        · rw [decide_eq_false hi, Bool.and_false]
      rw [h0]
      rfl
    · simp only [wordB, if_true]
      have h0 : (9223372036854775808 + r) &&& 9223372036854775808 = 9223372036854775808 := by
        apply Nat.eq_of_testBit_eq
        intro i
        rw [Nat.testBit_and, show (9223372036854775808 : Nat) = 2 ^ 63 by decide, Nat.testBit_two_pow]
        by_cases hi : 63 = i
        · subst hi; rw [Nat.testBit_two_pow_add_eq, Nat.testBit_lt_two_pow (by omega)]; rfl
        · rw [decide_eq_false hi, Bool.and_false]
      rw [h0]
  · have e1 : (((wordB s r : Nat) : Int) / 4503599627370496) = ((wordB s r / 4503599627370496 : Nat) : Int) := by omega
    have h1 := bits_and_u64_nat (wordB s r / 4503599627370496) 2047 (by omega) (by omega)
    rw [e1, show (2047 : Int) = ((2047 : Nat) : Int) from rfl, h1, show (2047 : Nat) = 2 ^ 11 - 1 by decide, Nat.and_two_pow_sub_one_eq_mod]
    cases s <;> simp only [wordB, Bool.false_eq_true, if_false, if_true] <;> congr 1 <;> omega

theorem or_b52 {m : Nat} (h : m < 4503599627370496) : bits .or .u64 (m : Int) 4503599627370496 = ((4503599627370496 + m : Nat) : Int) := by
  have h1 := bits_or_u64_nat m 4503599627370496 (by omega) (by omega)
  rw [show (4503599627370496 : Int) = ((4503599627370496 : Nat) : Int) from rfl, h1]
  congr 1
  rw [Nat.or_comm, show (4503599627370496 : Nat) = 2 ^ 52 * 1 by decide, ← Nat.two_pow_add_eq_or_of_lt (by omega)]

theorem mant_lt (r : Nat) : mantW r < 9007199254740992 := by unfold mantW; split <;> omega

theorem finN (s : Bool) {r : Nat} (h : r < INF) : finB (wordB s r) = true := by rw [fin_word s (by unfold INF at h; omega)]; simpa using h

set_option maxHeartbeats 1600000 in
set_option maxRecDepth 100000 in
theorem fl_dyad_core (s : Bool) (v m0 e0 m1 : Nat) (x : Dy) (w : World) (hT : Hid (Tab6 w)) (hv : v < 18446744073709551616) (hf : finB v = true) (hA : bits .and .u64 (v : Int) 4503599627370495 = (m0 : Int)) (hS : bits .and .u64 (v : Int) 9223372036854775808 = (if s then 9223372036854775808 else 0)) (hE : bits .and .u64 ((v : Int) / 4503599627370496) 2047 = (e0 : Int)) (he : e0 < 2048)
    (hO : e0 ≠ 0 → bits .or .u64 (m0 : Int) 4503599627370496 = (m1 : Int)) (hm1 : (m1 : Int) < 9007199254740992) (h0 : e0 = 0 → m0 = m1) (hx : nrm (sg s m1) ((if e0 = 0 then 1 else (e0 : Int)) - 1 + -1074) = x) : Calls Tryz.prog 144 #[.float .f64 v] w (QDPost x true w) := by
  have hk := (KB.start w).new 32 [.bool false, .slice none 0 0, .int .i64 0]
  have HT := Lib.hid (hT.out.keep hk.only)
  have HK := Lib.hid hk
  have HV := Lib.hid hv
  have HM : Hid (m1 < BB) := by show _ < _; rw [BB_val]; omega
  have HB : Hid (bitsN (sg s m1).natAbs ≤ 16777216) := by
    show _ ≤ _
    rw [sg_abs]
    exact Nat.le_trans (bitsN_le (show m1 < 2 ^ 53 by omega)) (by decide)
  have hbr := bits_run v
  clear hk hT hv
  by_cases hz : e0 = 0
  · subst hz
    have h01 := h0 rfl
    subst h01
    rw [if_pos rfl] at hx
    have HX : Hid (nrm (sg s m0) (-1074) = x) := hx
    clear hx h0 hO he hm1
    cases s
    · simp only [Bool.false_eq_true, if_false] at hS
      go_enter Tryz.func144, Tryz.ntmps144
      go_wp2_with (go_at_call 160; (with_reducible refine (finite_any v HV.out _).mono ?_); rw [hf]; rintro e w' ⟨rfl, rfl⟩)
      have hol := of_lit m0 ((m0 : Nat) : Int) (w.alloc (.cells #[.bool false, .slice none 0 0, .int .i64 0] 32)) HM (Lib.hid rfl)
      simp only [World.size_alloc] at hol
      (with_reducible refine hol.mono ?_)
      clear hol
      rintro e w2 ⟨A2, k2, c2, rfl, hr2, hv2, ho2⟩
      replace HK := Lib.hid (HK.out.step ho2)
      replace HT := Lib.hid (HT.out.keep ho2)
      have HV2 := Lib.hid hv2
      clear hr2 hv2 ho2
      go_wp2_with fail
      (with_reducible refine (make_w false HV2).mono ?_)
      rintro e w3 ⟨s3, A3, k3, c3, rfl, -, -, hv3, ho3⟩
      replace HK := Lib.hid (HK.out.step ho3)
      replace HT := Lib.hid (HT.out.keep ho3)
      have HV3 := Lib.hid hv3
      clear hv3 ho3
      go_wp2_with fail
      (with_reducible refine (make_d HV3 HB (by omega) (by omega) HT).mono ?_)
      rintro e w4 ⟨s4, A4, k4, c4, rfl, hs4, hk4, hv4, ho4⟩
      replace HK := Lib.hid (HK.out.step ho4)
      have HC : Hid (Cn s4 k4 (nrm (sg false m0) _).z) := ⟨hs4, hk4⟩
      have HV4 := Lib.hid hv4
      obtain ⟨c0, c1', c2', f0, f1, f2⟩ := HK.out.c3 0 rfl
      clear ho4 hs4 hk4 hv4
      rw [HX.out] at HC HV4
      rw [HX.out]
      go_wp2_with fail
      refine bodyPost_ret (v := .tuple #[.agg #[.bool s4, .slice A4 k4 c4, .int .i64 (x.e)], .bool true]) (by simp [results, Tryz.results144, go_sem, c0, c1', c2']) rfl ?_
      exact QDPost.of (dfin HC HV4 (by omega) (HK.out.blk 0 rfl) (noLimb3 _ _ _ _ _) HK.out.only (only_set3 _ _ _ _ _))
    · simp only [if_true] at hS
      go_enter Tryz.func144, Tryz.ntmps144
      go_wp2_with (go_at_call 160; (with_reducible refine (finite_any v HV.out _).mono ?_); rw [hf]; rintro e w' ⟨rfl, rfl⟩)
      have hol := of_lit m0 ((m0 : Nat) : Int) (w.alloc (.cells #[.bool false, .slice none 0 0, .int .i64 0] 32)) HM (Lib.hid rfl)
      simp only [World.size_alloc] at hol
      (with_reducible refine hol.mono ?_)
      clear hol
      rintro e w2 ⟨A2, k2, c2, rfl, hr2, hv2, ho2⟩
      replace HK := Lib.hid (HK.out.step ho2)
      replace HT := Lib.hid (HT.out.keep ho2)
      have HV2 := Lib.hid hv2
      clear hr2 hv2 ho2
      go_wp2_with fail
      (with_reducible refine (make_w true HV2).mono ?_)
      rintro e w3 ⟨s3, A3, k3, c3, rfl, -, -, hv3, ho3⟩
      replace HK := Lib.hid (HK.out.step ho3)
      replace HT := Lib.hid (HT.out.keep ho3)
      have HV3 := Lib.hid hv3
      clear hv3 ho3
      go_wp2_with fail
      (with_reducible refine (make_d HV3 HB (by omega) (by omega) HT).mono ?_)
      rintro e w4 ⟨s4, A4, k4, c4, rfl, hs4, hk4, hv4, ho4⟩
      replace HK := Lib.hid (HK.out.step ho4)
      have HC : Hid (Cn s4 k4 (nrm (sg true m0) _).z) := ⟨hs4, hk4⟩
      have HV4 := Lib.hid hv4
      obtain ⟨c0, c1', c2', f0, f1, f2⟩ := HK.out.c3 0 rfl
      clear ho4 hs4 hk4 hv4
      rw [HX.out] at HC HV4
      rw [HX.out]
      go_wp2_with fail
      refine bodyPost_ret (v := .tuple #[.agg #[.bool s4, .slice A4 k4 c4, .int .i64 (x.e)], .bool true]) (by simp [results, Tryz.results144, go_sem, c0, c1', c2']) rfl ?_
      exact QDPost.of (dfin HC HV4 (by omega) (HK.out.blk 0 rfl) (noLimb3 _ _ _ _ _) HK.out.only (only_set3 _ _ _ _ _))
  · rw [if_neg hz] at hx
    have HX := Lib.hid hx
    have hO' := hO hz
    have hz' : ((e0 : Int) == 0) = false := by rw [beq_eq_false_iff_ne]; omega
    have he' : (e0 : Int) < 2048 := by omega
    have hz2 : ¬ (e0 : Int) = 0 := by omega
    clear hx h0 he hm1 hz hO
    cases s
    · simp only [Bool.false_eq_true, if_false] at hS
      go_enter Tryz.func144, Tryz.ntmps144
      go_wp2_with (go_at_call 160; (with_reducible refine (finite_any v HV.out _).mono ?_); rw [hf]; rintro e w' ⟨rfl, rfl⟩)
      have hol := of_lit m1 ((m1 : Nat) : Int) (w.alloc (.cells #[.bool false, .slice none 0 0, .int .i64 0] 32)) HM (Lib.hid rfl)
      simp only [World.size_alloc] at hol
      (with_reducible refine hol.mono ?_)
      clear hol
      rintro e w2 ⟨A2, k2, c2, rfl, hr2, hv2, ho2⟩
      replace HK := Lib.hid (HK.out.step ho2)
      replace HT := Lib.hid (HT.out.keep ho2)
      have HV2 := Lib.hid hv2
      clear hr2 hv2 ho2
      go_wp2_with fail
      (with_reducible refine (make_w false HV2).mono ?_)
      rintro e w3 ⟨s3, A3, k3, c3, rfl, -, -, hv3, ho3⟩
      replace HK := Lib.hid (HK.out.step ho3)
      replace HT := Lib.hid (HT.out.keep ho3)
      have HV3 := Lib.hid hv3
      clear hv3 ho3
      go_wp2_with fail
      (with_reducible refine (make_d HV3 HB (by omega) (by omega) HT).mono ?_)
      rintro e w4 ⟨s4, A4, k4, c4, rfl, hs4, hk4, hv4, ho4⟩
      replace HK := Lib.hid (HK.out.step ho4)
      have HC : Hid (Cn s4 k4 (nrm (sg false m1) _).z) := ⟨hs4, hk4⟩
      have HV4 := Lib.hid hv4
      obtain ⟨c0, c1', c2', f0, f1, f2⟩ := HK.out.c3 0 rfl
      clear ho4 hs4 hk4 hv4
      rw [HX.out] at HC HV4
      rw [HX.out]
      go_wp2_with fail
      refine bodyPost_ret (v := .tuple #[.agg #[.bool s4, .slice A4 k4 c4, .int .i64 (x.e)], .bool true]) (by simp [results, Tryz.results144, go_sem, c0, c1', c2']) rfl ?_
      exact QDPost.of (dfin HC HV4 (by omega) (HK.out.blk 0 rfl) (noLimb3 _ _ _ _ _) HK.out.only (only_set3 _ _ _ _ _))
    · simp only [if_true] at hS
      go_enter Tryz.func144, Tryz.ntmps144
      go_wp2_with (go_at_call 160; (with_reducible refine (finite_any v HV.out _).mono ?_); rw [hf]; rintro e w' ⟨rfl, rfl⟩)
      have hol := of_lit m1 ((m1 : Nat) : Int) (w.alloc (.cells #[.bool false, .slice none 0 0, .int .i64 0] 32)) HM (Lib.hid rfl)
      simp only [World.size_alloc] at hol
      (with_reducible refine hol.mono ?_)
      clear hol
      rintro e w2 ⟨A2, k2, c2, rfl, hr2, hv2, ho2⟩
      replace HK := Lib.hid (HK.out.step ho2)
      replace HT := Lib.hid (HT.out.keep ho2)
      have HV2 := Lib.hid hv2
      clear hr2 hv2 ho2
      go_wp2_with fail
      (with_reducible refine (make_w true HV2).mono ?_)
      rintro e w3 ⟨s3, A3, k3, c3, rfl, -, -, hv3, ho3⟩
      replace HK := Lib.hid (HK.out.step ho3)
      replace HT := Lib.hid (HT.out.keep ho3)
      have HV3 := Lib.hid hv3
      clear hv3 ho3
      go_wp2_with fail
      (with_reducible refine (make_d HV3 HB (by omega) (by omega) HT).mono ?_)
      rintro e w4 ⟨s4, A4, k4, c4, rfl, hs4, hk4, hv4, ho4⟩
      replace HK := Lib.hid (HK.out.step ho4)
      have HC : Hid (Cn s4 k4 (nrm (sg true m1) _).z) := ⟨hs4, hk4⟩
      have HV4 := Lib.hid hv4
      obtain ⟨c0, c1', c2', f0, f1, f2⟩ := HK.out.c3 0 rfl
      clear ho4 hs4 hk4 hv4
      rw [HX.out] at HC HV4
      rw [HX.out]
      go_wp2_with fail
      refine bodyPost_ret (v := .tuple #[.agg #[.bool s4, .slice A4 k4 c4, .int .i64 (x.e)], .bool true]) (by simp [results, Tryz.results144, go_sem, c0, c1', c2']) rfl ?_
      exact QDPost.of (dfin HC HV4 (by omega) (HK.out.blk 0 rfl) (noLimb3 _ _ _ _ _) HK.out.only (only_set3 _ _ _ _ _))

theorem fl_dyad (s : Bool) {r : Nat} (h : r < INF) (w : World) (hT : Hid (Tab6 w)) : Calls Tryz.prog 144 #[.float .f64 (wordB s r)] w (QDPost (fD s r) true w) := by
  have h2 : r < 9223372036854775808 := by unfold INF at h; omega
  obtain ⟨h1, h3, h4⟩ := word_parts_bits s h2
  refine fl_dyad_core s (wordB s r) (r % 4503599627370496) (r / 4503599627370496) (mantW r) _ w hT (word_lt s h2) (finN s h) h1 h3 h4 (by omega) (fun h0 => ?_) (by have := mant_lt r; omega) (fun h0 => ?_) ?_
  · rw [or_b52 (Nat.mod_lt _ (by omega))]
    unfold mantW
    rw [if_neg (by omega)]
  · unfold mantW
    rw [if_pos (by omega)]
    omega
  · unfold fD expoW
    congr 1
    split <;> omega

end Fl

end Go.Proofs.YtigpnopeacicpaaGreatDoor

/-
  compasslaw4.alive: a first call whose answer is known.
-/
namespace Go.Proofs.YtigpnopeacicpaaGreatDoor
set_option linter.unusedSimpArgs false
open Go.RowKit

namespace Fl

theorem fl_dyadV (v : Nat) (s : Bool) {r : Nat} (x : Dy) (h : r < INF) (hv : wordB s r = v) (hx : fD s r = x) (w : World) (hT : Hid (Tab6 w)) : Calls Tryz.prog 144 #[.float .f64 v] w (QDPost x true w) := by
  subst hv hx
  exact fl_dyad s h w hT

end Fl

end Go.Proofs.YtigpnopeacicpaaGreatDoor

/-
  A map[int]int that the call has made, as a function of its keys.
-/
namespace Go.Proofs.YtigpnopeacicpaaGreatDoor
open Go.RowKit Go.Maps

def Small (k : Int) : Prop := -4611686018427387904 ≤ k ∧ k ≤ 4611686018427387904
theorem Small.wf {k : Int} (h : Small k) : (Lit.int .i64 k).wf = true := by
  obtain ⟨h1, h2⟩ := h
  have e1 : IntKind.i64.min = -9223372036854775808 := by decide
  have e2 : IntKind.i64.max = 9223372036854775807 := by decide
  simp only [Lit.wf, Bool.and_eq_true, decide_eq_true_eq, e1, e2]
  omega

def MapI (w : World) (b n : Nat) (f : Int → Option Int) : Prop :=
  ∃ D : DataW Unit, w.ownsMap Tryz.prog 3 (plainElem Tryz.prog 3) b n D ∧ ∀ k, Small k → Maps.has D (.int .i64 k) = (f k).isSome ∧ D.atKey (.int .i64 k) (.lit (.int .i64 0)) = .lit (.int .i64 ((f k).getD 0))
theorem zeroInt (w : World) : (zeroValue 3).run Tryz.prog w = .ok (.int .i64 0) w := by kernel_rfl
theorem MapI.lt {w : World} {b n : Nat} {f : Int → Option Int} (h : MapI w b n f) : b < w.heap.size := by
  obtain ⟨D, h1, _⟩ := h
  exact h1.lt
theorem MapI.only {w w' : World} {b n : Nat} {f : Int → Option Int} {S : List Nat} (h : MapI w b n f) (ho : Only S w w') (hb : b ∉ S) : MapI w' b n f := by
  obtain ⟨D, ⟨es, clock, h1, h2⟩, h3⟩ := h
  exact ⟨D, ⟨es, clock, ho.heap h1 hb, h2⟩, h3⟩
theorem MapI.made (w : World) : MapI (w.alloc (.map #[] 0)) w.heap.size 0 (fun _ => none) :=
  ⟨.map [], World.ownsMap_made w _ _ _, fun _ _ => ⟨rfl, rfl⟩⟩
set_option maxRecDepth 100000 in
theorem MapI.look {w : World} {b n : Nat} {f : Int → Option Int} (h : MapI w b n f) {k : Int} (hk : Small k) :
    (Instr.lookup 147 (.map (some b)) (.int .i64 k) false).run Tryz.prog w = .ok (.int .i64 ((f k).getD 0)) w := by
  obtain ⟨D, h1, h2⟩ := h
  obtain ⟨c, hr, hc, _⟩ := h1.lookup_int (q := .i64) (int_keyed Tryz.underlying3) Tryz.underlying147 Tryz.underlying3 (zeroInt w) (keyOf_int_mk Tryz.underlying3 hk.wf)
  have h3 := (h2 k hk).2
  rw [hc] at h3
  simp only [DataW.lit.injEq, Lit.int.injEq, true_and] at h3
  rw [hr, h3]
theorem MapI.store {w : World} {b n : Nat} {f : Int → Option Int} (h : MapI w b n f) (hn : n < 1000000) {k v : Int} (hk : Small k) (hv : Small v) :
    ∃ w', (Instr.mapUpdate 147 (.map (some b)) (.int .i64 k) (.int .i64 v)).run Tryz.prog w = .ok () w' ∧ MapI w' b (n + 1) (fun x => if x = k then some v else f x) ∧ Only [b] w w' := by
  obtain ⟨D, h1, h2⟩ := h
  obtain ⟨w', hr, ho, hg⟩ := h1.update (int_keyed Tryz.underlying3) Tryz.underlying147 (by simp only [maxLen]; omega) (keyOf_int_mk Tryz.underlying3 hk.wf) (plainElem_int Tryz.underlying3 hv.wf)
  refine ⟨w', hr, ⟨_, ho, fun x hx => ?_⟩, Only.of_grown hg (by simp)⟩
  show _ = (if x = k then some v else f x).isSome ∧ _ = DataW.lit (Lit.int .i64 ((if x = k then some v else f x).getD 0))
  by_cases e : x = k
  · subst e
    have hD := h1.isMap
    rw [if_pos rfl]
    exact ⟨by rw [has_put_same hD (by trivial)]; rfl, by rw [atKey_put_same hD (by trivial)]; rfl⟩
  · rw [if_neg e]
    have hne : Lit.int .i64 x ≠ Lit.int .i64 k := fun h => e (by injection h)
    exact ⟨by rw [has_put_other hne]; exact (h2 x hx).1, by rw [atKey_put_other hne]; exact (h2 x hx).2⟩
end Go.Proofs.YtigpnopeacicpaaGreatDoor
