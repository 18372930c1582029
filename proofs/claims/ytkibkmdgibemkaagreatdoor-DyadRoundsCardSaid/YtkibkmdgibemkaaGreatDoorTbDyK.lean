/-
  Dyads in boxes; a first call whose answer is known (compasslaw3.alive).
-/
import Derived.Test.YtkibkmdgibemkaaGreatDoorTbDyJ
import Derived.Test.YtkibkmdgibemkaaGreatDoorTbGDyP
namespace Go.Proofs.YtkibkmdgibemkaaGreatDoor
set_option linter.unusedSimpArgs false
open Go.RowKit

theorem quoA_d {w : World} {a b : Value} {x y : Dy} {N : Nat} (p dir : Int) (ha : Hid (DV w a x)) (hb : Hid (DV w b y)) (hx : Hid (Bnd N x)) (hy : Hid (Bnd N y)) (hN : N ≤ 100000) (hT : Hid (Tab6 w)) : Calls Tryz.prog 48 #[a, b, .int .i64 p, .int .i64 dir] w (QDPost (quoQ (widthP p) (decide (0 ≤ dir)) x y) (decide (y.z ≠ 0)) w) := by
  unfold quoQ
  by_cases hy0 : y.z = 0
  · rw [if_pos hy0, decide_eq_false (by omega)]
    exact quo0_d p dir ha hb hy0 hT
  · rw [if_neg hy0, decide_eq_true hy0]
    by_cases hx0 : x.z = 0
    · rw [if_pos hx0]
      exact quoz_d p dir ha hb hy0 hx0 hT
    · rw [if_neg hx0]
      exact quo_d p dir ha hb hx hy hN hx0 hy0 hT
theorem ofV_d (v : Int) (x : Dy) (w : World) (hx : nrm v 0 = x) (hv : Hid (-9223372036854775808 ≤ v ∧ v ≤ 9223372036854775807)) (hT : Hid (Tab6 w)) : Calls Tryz.prog 46 #[.int .i64 v] w (DPost x w) := hx ▸ of_d v w hv hT
theorem quoV_d {w : World} {a b : Value} {x y : Dy} {N : Nat} (p dir : Int) (r : Dy) (ok : Bool) (hr : quoQ (widthP p) (decide (0 ≤ dir)) x y = r) (hok : decide (y.z ≠ 0) = ok) (ha : Hid (DV w a x)) (hb : Hid (DV w b y)) (hx : Hid (Bnd N x)) (hy : Hid (Bnd N y)) (hN : N ≤ 100000) (hT : Hid (Tab6 w)) : Calls Tryz.prog 48 #[a, b, .int .i64 p, .int .i64 dir] w (QDPost r ok w) := hr ▸ hok ▸ quoA_d p dir ha hb hx hy hN hT

/-! ### Boxes of dyads -/
structure DX where
  g : Nat
  s : Bool
  a : Option Addr
  k : Nat
  c : Nat
  x : Dy
def DX.ok (w : World) (b : DX) : Prop := Blk w b.g 59 [.bool b.s, .slice b.a b.k b.c, .int .i64 b.x.e] ∧ IV w (.agg #[.bool b.s, .slice b.a b.k b.c]) b.x.z
structure DB (w0 w : World) (L : List DX) : Prop where
  only : Only [] w0 w
  all : ∀ (i : Nat) (x : DX), L[i]? = some x → DX.ok w x
  base : ∀ (i : Nat) (x : DX), L[i]? = some x → w0.heap.size ≤ x.g
  ne : ∀ (i j : Nat) (x y : DX), i ≠ j → L[i]? = some x → L[j]? = some y → x.g ≠ y.g
theorem DB.start (w : World) : DB w w [] := ⟨Only.refl _ _, fun i x h => by simp at h, fun i x h => by simp at h, fun i j x y _ h => by simp at h⟩
theorem DB.step {w0 w w' : World} {L : List DX} (h : DB w0 w L) (ho : Only [] w w') : DB w0 w' L := ⟨h.only.nil_trans ho, fun i x hx => ⟨(h.all i x hx).1.only ho (by simp), (h.all i x hx).2.only ho⟩, h.base, h.ne⟩
theorem DB.new {w0 w : World} {L : List DX} (h : DB w0 w L) {s : Bool} {A : Option Addr} {k c : Nat} {x : Dy} (hv : IV w (.agg #[.bool s, .slice A k c]) x.z) :
    DB w0 (w.alloc (.cells #[.bool s, .slice A k c, .int .i64 x.e] 59)) (⟨w.heap.size, s, A, k, c, x⟩ :: L) := by
  have ho : Only [] w (w.alloc (.cells #[.bool s, .slice A k c, .int .i64 x.e] 59)) := (Only.refl [] w).alloc _
  have h' := h.step ho
  refine ⟨h'.only, fun i y hy => ?_, fun i y hy => ?_, fun i j y z hij hy hz => ?_⟩
  · rcases i with _ | i
    · obtain rfl := (Option.some.inj hy).symm
      exact ⟨Blk.new w _ _, hv.only ho⟩
    · exact h'.all i y hy
  · rcases i with _ | i
    · obtain rfl := (Option.some.inj hy).symm
      exact h.only.size
    · exact h.base i y hy
  · rcases i with _ | i
    · rcases j with _ | j
      · omega
      · obtain rfl := (Option.some.inj hy).symm
        have := (h.all j z hz).1.lt
        show w.heap.size ≠ z.g
        omega
    · rcases j with _ | j
      · obtain rfl := (Option.some.inj hz).symm
        have := (h.all i y hy).1.lt
        show y.g ≠ w.heap.size
        omega
      · exact h.ne i j y z (by omega) hy hz
theorem DB.cells {w0 w : World} {L : List DX} (h : Hid (DB w0 w L)) (i : Nat) {g : Nat} {s : Bool} {A : Option Addr} {k c : Nat} {x : Dy} (hi : L[i]? = some ⟨g, s, A, k, c, x⟩) :
    w.cell? ⟨g, 0, none⟩ = some (.bool s) ∧ w.cell? ⟨g, 1, none⟩ = some (.slice A k c) ∧ w.cell? ⟨g, 2, none⟩ = some (.int .i64 x.e) ∧ w.frozen? ⟨g, 0, none⟩ = false ∧ w.frozen? ⟨g, 1, none⟩ = false ∧ w.frozen? ⟨g, 2, none⟩ = false :=
  have hb := (h.out.all i _ hi).1
  ⟨hb.cell 0, hb.cell 1, hb.cell 2, hb.frozen 0, hb.frozen 1, hb.frozen 2⟩
theorem DB.iv {w0 w : World} {L : List DX} (h : Hid (DB w0 w L)) (i : Nat) {g : Nat} {s : Bool} {A : Option Addr} {k c : Nat} {x : Dy} (hi : L[i]? = some ⟨g, s, A, k, c, x⟩) : Hid (IV w (.agg #[.bool s, .slice A k c]) x.z) := (h.out.all i _ hi).2
theorem DB.dv {w0 w : World} {L : List DX} (h : Hid (DB w0 w L)) (i : Nat) {g : Nat} {s : Bool} {A : Option Addr} {k c : Nat} {x : Dy} (hi : L[i]? = some ⟨g, s, A, k, c, x⟩) : Hid (DV w (.agg #[.bool s, .slice A k c, .int .i64 x.e]) x) := DV.of (DB.iv h i hi)
/-! ### Small numbers -/
theorem nrm_eval {z e : Int} (k m : Nat) (h : z.natAbs = 2 ^ k * (2 * m + 1)) : nrm z e = ⟨sg (decide (z < 0)) (2 * m + 1), e + (k : Int)⟩ := by
  have h0 : z ≠ 0 := by
    intro hc
    rw [hc] at h
    have h1 : 0 < 2 ^ k := Nat.pow_pos (by omega)
    have h2 := Nat.mul_le_mul_left (2 ^ k) (show 1 ≤ 2 * m + 1 by omega)
    rw [← h] at h2
    have h3 : Int.natAbs 0 = 0 := rfl
    omega
  rw [nrm_nz e h0, h, lowN_is, Nat.mul_div_cancel_left _ (Nat.pow_pos (by omega))]
theorem nrm_1 : nrm 1 0 = ⟨1, 0⟩ := by rw [nrm_eval 0 0 (by decide)]; rfl
theorem nrm_3 : nrm 3 0 = ⟨3, 0⟩ := by rw [nrm_eval 0 1 (by decide)]; rfl
theorem nrm_12 : nrm 12 0 = ⟨3, 2⟩ := by rw [nrm_eval 2 1 (by decide)]; rfl
theorem q_core (up : Bool) : quoD 2 up ⟨1, 0⟩ ⟨3, 0⟩ = rndD 2 up ⟨21, -6⟩ := by
  have e : quoS 2 1 3 = 5 := by decide
  unfold quoD betD quoM
  show rndD 2 up (nrm (sg (decide ((1 : Int) < 0) != decide ((3 : Int) < 0)) (if (cutB 1 (quoS 2 1 3) || decide (0 < shN 1 (quoS 2 1 3) % 3)) = true then shN 1 (quoS 2 1 3) / 3 * 2 + 1 else shN 1 (quoS 2 1 3) / 3)) (if (cutB 1 (quoS 2 1 3) || decide (0 < shN 1 (quoS 2 1 3) % 3)) = true then 0 - 0 - quoS 2 1 3 - 1 else 0 - 0 - quoS 2 1 3)) = _
  rw [e]
  have c : cutB 1 5 = false := rfl
  have s : shN 1 5 = 32 := by decide
  rw [c, s]
  show rndD 2 up (nrm 21 (-6)) = _
  rw [nrm_eval 0 10 (by decide)]
  rfl
theorem rnd_21 (up : Bool) : rndD 2 up ⟨21, -6⟩ = if up then ⟨3, -3⟩ else ⟨1, -2⟩ := by
  unfold rndD
  have h : nrm (Dy.z ⟨21, -6⟩) (Dy.e ⟨21, -6⟩) = ⟨21, -6⟩ := by
    show nrm 21 (-6) = _
    rw [nrm_eval 0 10 (by decide)]; rfl
  rw [h]
  have hb : bitsN (Int.natAbs 21) = 5 := by decide
  show (if bitsN (Int.natAbs 21) ≤ 2 then _ else _) = _
  rw [hb, if_neg (by decide)]
  cases up
  · show nrm 2 (-3) = _
    rw [nrm_eval 1 0 (by decide)]; rfl
  · show nrm 3 (-3) = _
    rw [nrm_eval 0 1 (by decide)]; rfl
theorem w_two : widthP 2 = 2 := by decide
theorem q_lo3 : quoQ (widthP 2) (decide ((0 : Int) ≤ -1)) ⟨1, 0⟩ ⟨3, 0⟩ = ⟨1, -2⟩ := by
  rw [w_two]
  show quoD 2 false ⟨1, 0⟩ ⟨3, 0⟩ = _
  rw [q_core, rnd_21]; rfl
theorem q_hi3 : quoQ (widthP 2) (decide ((0 : Int) ≤ 1)) ⟨1, 0⟩ ⟨3, 0⟩ = ⟨3, -3⟩ := by
  rw [w_two]
  show quoD 2 true ⟨1, 0⟩ ⟨3, 0⟩ = _
  rw [q_core, rnd_21]; rfl
theorem top_12 : topD ⟨3, 2⟩ = 4 := by decide
theorem dec_1 : Lib.decDigits 1 = [49] := by rw [dec_small (by omega)]; rfl
theorem bnd_s {z e : Int} (h1 : z.natAbs < 16) (h2 : -4 ≤ e) (h3 : e ≤ 4) : Bnd 4 ⟨z, e⟩ := ⟨h1, h2, h3⟩

set_option maxHeartbeats 1600000 in
set_option maxRecDepth 100000 in
theorem alive3_any (w : World) (htab : Hid (Tab w)) (hT : Hid (Tab6 w)) : Calls Tryz.prog 27 #[] w fun e w' => e = .returned (.bool true) ∧ Only [] w w' := by
  have HE := Lib.hid (DB.start w)
  go_enter Tryz.func27, Tryz.ntmps27
  go_wp2_with fail
  (with_reducible refine (ofV_d 1 ⟨1, 0⟩ _ nrm_1 (Lib.hid (by omega)) (Lib.hid (hT.out.keep HE.out.only))).mono ?_)
  rintro e w1 ⟨s1, A1, k1, c1, rfl, -, -, hv, ho⟩
  replace HE := Lib.hid (HE.out.step ho)
  have HV1 := Lib.hid hv
  clear hv ho
  go_wp2_with fail
  (with_reducible refine (ofV_d 3 ⟨3, 0⟩ _ nrm_3 (Lib.hid (by omega)) (Lib.hid (hT.out.keep HE.out.only))).mono ?_)
  rintro e w2 ⟨s2, A2, k2, c2, rfl, -, -, hv, ho⟩
  replace HE := Lib.hid (HE.out.step ho)
  replace HV1 := Lib.hid (HV1.out.only ho)
  have HV2 := Lib.hid hv
  clear hv ho
  go_wp2_with fail
  (with_reducible refine (quoV_d (x := ⟨1, 0⟩) (y := ⟨3, 0⟩) 2 (-1) ⟨1, -2⟩ true q_lo3 rfl (DV.of HV1) (DV.of HV2) (Lib.hid (bnd_s (by decide) (by decide) (by decide))) (Lib.hid (bnd_s (by decide) (by decide) (by decide))) (by omega) (Lib.hid (hT.out.keep HE.out.only))).mono ?_)
  rintro e wa ⟨s3, A3, k3, c3, rfl, -, -, hv, ho⟩
  replace HE := Lib.hid ((HE.out.step ho).new hv)
  clear hv ho HV1 HV2
  go_wp2_with fail
  (with_reducible refine (ofV_d 1 ⟨1, 0⟩ _ nrm_1 (Lib.hid (by omega)) (Lib.hid (hT.out.keep HE.out.only))).mono ?_)
  rintro e w1 ⟨s1, A1, k1, c1, rfl, -, -, hv, ho⟩
  replace HE := Lib.hid (HE.out.step ho)
  have HV1 := Lib.hid hv
  clear hv ho
  go_wp2_with fail
  (with_reducible refine (ofV_d 3 ⟨3, 0⟩ _ nrm_3 (Lib.hid (by omega)) (Lib.hid (hT.out.keep HE.out.only))).mono ?_)
  rintro e w2 ⟨s2, A2, k2, c2, rfl, -, -, hv, ho⟩
  replace HE := Lib.hid (HE.out.step ho)
  replace HV1 := Lib.hid (HV1.out.only ho)
  have HV2 := Lib.hid hv
  clear hv ho
  go_wp2_with fail
  (with_reducible refine (quoV_d (x := ⟨1, 0⟩) (y := ⟨3, 0⟩) 2 1 ⟨3, -3⟩ true q_hi3 rfl (DV.of HV1) (DV.of HV2) (Lib.hid (bnd_s (by decide) (by decide) (by decide))) (Lib.hid (bnd_s (by decide) (by decide) (by decide))) (by omega) (Lib.hid (hT.out.keep HE.out.only))).mono ?_)
  rintro e wb ⟨s4, A4, k4, c4, rfl, -, -, hv, ho⟩
  replace HE := Lib.hid ((HE.out.step ho).new hv)
  clear hv ho HV1 HV2
  obtain ⟨p0, p1, p2', -, -, -⟩ := DB.cells HE 0 rfl
  obtain ⟨r0, r1, r2, -, -, -⟩ := DB.cells HE 1 rfl
  go_wp2_with fail
  (with_reducible refine (text_w (DB.iv HE 1 rfl) (Lib.hid (htab.out.only HE.out.only)) (by rw [show Int.natAbs (Dy.z ⟨1, -2⟩) = 1 from rfl, dec_1]; decide)).mono ?_)
  rintro e w3 ⟨rfl, ho⟩
  rw [show Int.natAbs (Dy.z ⟨1, -2⟩) = 1 from rfl, dec_1]
  replace HE := Lib.hid (HE.out.step ho)
  clear ho p0 p1 p2' r0 r1 r2
  obtain ⟨p0, p1, p2', -, -, -⟩ := DB.cells HE 0 rfl
  go_wp2_with fail
  (with_reducible refine (text_w (DB.iv HE 0 rfl) (Lib.hid (htab.out.only HE.out.only)) (by rw [show Int.natAbs (Dy.z ⟨3, -3⟩) = 3 from rfl, dec_3]; decide)).mono ?_)
  rintro e w4 ⟨rfl, ho⟩
  rw [show Int.natAbs (Dy.z ⟨3, -3⟩) = 3 from rfl, dec_3]
  replace HE := Lib.hid (HE.out.step ho)
  clear ho p0 p1 p2'
  go_wp2_with fail
  (with_reducible refine (ofV_d 12 ⟨3, 2⟩ _ nrm_12 (Lib.hid (by omega)) (Lib.hid (hT.out.keep HE.out.only))).mono ?_)
  rintro e w5 ⟨s5, A5, k5, c5, rfl, -, -, hv, ho⟩
  replace HE := Lib.hid (HE.out.step ho)
  have HV5 := Lib.hid hv
  clear hv ho
  go_wp2_with fail
  (with_reducible refine (topV_d 4 (DV.of HV5) (Lib.hid (bnd_s (by decide) (by decide) (by decide))) (by omega) top_12).mono ?_)
  rintro e w6 ⟨rfl, ho⟩
  replace HE := Lib.hid (HE.out.step ho)
  clear ho HV5
  go_wp2_with fail
  go_ret
  exact ⟨rfl, HE.out.only⟩
end Go.Proofs.YtkibkmdgibemkaaGreatDoor
