/-
  Balls: what a struct reads as; At, Not, Add, Sub, Sign, Has.
-/
import Derived.Test.YtgiejjpemhceiaaDoorTdDyQ
namespace Go.Proofs.YtgiejjpemhceiaaDoor
set_option linter.unusedSimpArgs false
open Go.RowKit

def BV (w : World) (v : Value) (x y : Dy) : Prop := ∃ s A k c t B m d, v = .agg #[.bool s, .slice A k c, .int .i64 x.e, .bool t, .slice B m d, .int .i64 y.e] ∧ IV w (.agg #[.bool s, .slice A k c]) x.z ∧ IV w (.agg #[.bool t, .slice B m d]) y.z
theorem BV.only {w w' : World} {v : Value} {x y : Dy} (h : BV w v x y) (ho : Only [] w w') : BV w' v x y := by
  obtain ⟨s, A, k, c, t, B, m, d, h1, h2, h3⟩ := h
  exact ⟨s, A, k, c, t, B, m, d, h1, h2.only ho, h3.only ho⟩
def BPost (x y : Dy) (w : World) (e : Ending) (w' : World) : Prop := ∃ s A k c t B m d, e = .returned (.agg #[.bool s, .slice A k c, .int .i64 x.e, .bool t, .slice B m d, .int .i64 y.e]) ∧ Cn s k x.z ∧ IV w' (.agg #[.bool s, .slice A k c]) x.z ∧ Cn t m y.z ∧ IV w' (.agg #[.bool t, .slice B m d]) y.z ∧ Only [] w w'
theorem KB.c6 {w0 w : World} {L : List EB} (h : KB w0 w L) (i : Nat) {g : Nat} {t : TypeId} {a b c d e f : Value} (hi : L[i]? = some ⟨g, t, [a, b, c, d, e, f]⟩) :
    w.cell? ⟨g, 0, none⟩ = some a ∧ w.cell? ⟨g, 1, none⟩ = some b ∧ w.cell? ⟨g, 2, none⟩ = some c ∧ w.cell? ⟨g, 3, none⟩ = some d ∧ w.cell? ⟨g, 4, none⟩ = some e ∧ w.cell? ⟨g, 5, none⟩ = some f :=
  ⟨(h.blk i hi).cell 0, (h.blk i hi).cell 1, (h.blk i hi).cell 2, (h.blk i hi).cell 3, (h.blk i hi).cell 4, (h.blk i hi).cell 5⟩
theorem KB.f6 {w0 w : World} {L : List EB} (h : KB w0 w L) (i : Nat) {g : Nat} {t : TypeId} {cs : List Value} (hi : L[i]? = some ⟨g, t, cs⟩) :
    w.frozen? ⟨g, 0, none⟩ = false ∧ w.frozen? ⟨g, 1, none⟩ = false ∧ w.frozen? ⟨g, 2, none⟩ = false ∧ w.frozen? ⟨g, 3, none⟩ = false ∧ w.frozen? ⟨g, 4, none⟩ = false ∧ w.frozen? ⟨g, 5, none⟩ = false :=
  ⟨(h.blk i hi).frozen 0, (h.blk i hi).frozen 1, (h.blk i hi).frozen 2, (h.blk i hi).frozen 3, (h.blk i hi).frozen 4, (h.blk i hi).frozen 5⟩
theorem noLimb6 (s : Bool) (A : Option Addr) (k c : Nat) (e : Int) (t : Bool) (B : Option Addr) (m d : Nat) (f : Int) : NoLimb [.bool s, .slice A k c, .int .i64 e, .bool t, .slice B m d, .int .i64 f] := fun o n h => by
  rcases o with _ | _ | _ | _ | _ | _ | o <;> simp at h
theorem only_set6 (w : World) (b : Nat) (u0 u1 u2 u3 u4 u5 : Value) : Only [b] w ((((((w.setCell ⟨b, 0, none⟩ u0).setCell ⟨b, 1, none⟩ u1).setCell ⟨b, 2, none⟩ u2).setCell ⟨b, 3, none⟩ u3).setCell ⟨b, 4, none⟩ u4).setCell ⟨b, 5, none⟩ u5) :=
  ((((((Only.refl [b] w).setCell (.inl (by simp)) u0).setCell (.inl (by simp)) u1).setCell (.inl (by simp)) u2).setCell (.inl (by simp)) u3).setCell (.inl (by simp)) u4).setCell (.inl (by simp)) u5
theorem bfin {x y : Dy} {w w1 w2 : World} {b : Nat} {t : TypeId} {cs : List Value} {s s' : Bool} {A A' : Option Addr} {k c k' c' : Nat} (hc : Hid (Cn s k x.z)) (hv : Hid (IV w1 (.agg #[.bool s, .slice A k c]) x.z)) (hc' : Hid (Cn s' k' y.z)) (hv' : Hid (IV w1 (.agg #[.bool s', .slice A' k' c']) y.z)) (hb : w.heap.size ≤ b) (hB : Blk w1 b t cs) (hn : NoLimb cs) (ho : Only [] w w1) (ho2 : Only [b] w1 w2) :
    BPost x y w (.returned (.agg #[.bool s, .slice A k c, .int .i64 x.e, .bool s', .slice A' k' c', .int .i64 y.e])) w2 :=
  ⟨s, A, k, c, s', A', k', c', rfl, hc.out, hv.out.farS ho2 (fun g hg => by rw [List.mem_singleton] at hg; subst hg; exact hv.out.far_blk hB hn), hc'.out, hv'.out.farS ho2 (fun g hg => by rw [List.mem_singleton] at hg; subst hg; exact hv'.out.far_blk hB hn), ho.trans ho2 (fun k hk => .inr (by simp at hk; omega))⟩
set_option maxHeartbeats 3200000 in
set_option maxRecDepth 100000 in
theorem same_d {w : World} {a : Value} {x : Dy} {N : Nat} (ha : Hid (DV w a x)) (bx : Hid (Bnd N x)) (hN : N ≤ 8000000) (hT : Hid (Tab6 w)) : Calls Tryd.prog 107 #[a] w (DPost (nrm x.z x.e) w) := by
  have he := lim_i64 bx.out hN
  have HBt : Hid (bitsN x.z.natAbs ≤ 16777216) := bits_few bx.out.z (by omega)
  obtain ⟨s, A, k, c, rfl, hv⟩ := ha.out
  have hk := ((KB.start w).new 37 [.bool s, .slice A k c, .int .i64 x.e]).new 37 [.bool false, .slice none 0 0, .int .i64 0]
  simp only [World.size_alloc] at hk
  obtain ⟨i0, i1, i2, -, -, -⟩ := hk.c3 1 rfl
  have HV := Lib.hid (hv.only hk.only)
  have HK := Lib.hid hk
  clear hk hv ha
  go_enter Tryd.func107, Tryd.ntmps107
  go_wp2_with fail
  (with_reducible refine (make_d HV HBt (by omega) (by omega) (Lib.hid (hT.out.keep HK.out.only))).mono ?_)
  rintro e w2 ⟨s2, A2, k2, c2, rfl, hs2, hk2, hv2, ho⟩
  replace HK := Lib.hid (HK.out.step ho)
  have HC : Hid (Cn s2 k2 (nrm x.z x.e).z) := ⟨hs2, hk2⟩
  have HV2 := Lib.hid hv2
  obtain ⟨c0, c1', c2', f0, f1, f2⟩ := HK.out.c3 0 rfl
  clear ho hs2 hk2 hv2 HV i0 i1 i2
  generalize nrm x.z x.e = r at *
  go_wp2_with fail
  refine bodyPost_ret (v := .agg #[.bool s2, .slice A2 k2 c2, .int .i64 (r.e)]) (by simp [results, Tryd.results107, go_sem, c0, c1', c2']) rfl ?_
  exact dfin HC HV2 (by omega) (HK.out.blk 0 rfl) (noLimb3 _ _ _ _ _) HK.out.only (only_set3 _ _ _ _ _)
set_option maxHeartbeats 3200000 in
set_option maxRecDepth 100000 in
theorem at_b {w : World} {a : Value} {x : Dy} {N : Nat} (ha : Hid (DV w a x)) (bx : Hid (Bnd N x)) (hN : N ≤ 8000000) (hT : Hid (Tab6 w)) : Calls Tryd.prog 37 #[a] w (BPost (nrm x.z x.e) (nrm x.z x.e) w) := by
  obtain ⟨s, A, k, c, rfl, hv⟩ := ha.out
  have hk := ((KB.start w).new 37 [.bool s, .slice A k c, .int .i64 x.e]).new 51 [.bool false, .slice none 0 0, .int .i64 0, .bool false, .slice none 0 0, .int .i64 0]
  simp only [World.size_alloc] at hk
  have HX : Hid (DV _ (.agg #[.bool s, .slice A k c, .int .i64 x.e]) x) := ha.out.only hk.only
  have HK := Lib.hid hk
  clear hk hv ha
  go_enter Tryd.func37, Tryd.ntmps37
  go_upto_region 1 with fail
  apply wp_region_typed_tail2 4 (by kernel_rfl) [isV _, isD (nrm x.z x.e), isV _, isD (nrm x.z x.e)] [[], [0], [], [2]] (by kernel_rfl) (by kernel_rfl) (by kernel_rfl)
  case ho =>
    simp only [List.take_succ_cons, List.take_zero]
    refine owes2_cons (fun wx hox => ?_) ?_
    · skip
      have hk := HK.out.step hox
      obtain ⟨i0, i1, i2, -, -, -⟩ := hk.c3 1 rfl
      refine withs_plain rfl ?_
      simp only [withs, List.getElem?_cons_zero, List.getElem?_cons_succ, Option.bind, Option.getD]
      repeat (first | (with_reducible refine all_isV ?_) | (with_reducible refine all_isD ?_; intro sx Ax kx cx hvx hwx))
      go_simp
      exact ⟨Only.refl _ _, isV.self _ _⟩
    refine owes2_cons (fun wx hox => ?_) ?_
    · skip
      have hk := HK.out.step hox
      obtain ⟨i0, i1, i2, -, -, -⟩ := hk.c3 1 rfl
      refine withs_plain rfl ?_
      simp only [withs, List.getElem?_cons_zero, List.getElem?_cons_succ, Option.bind, Option.getD]
      repeat (first | (with_reducible refine all_isV ?_) | (with_reducible refine all_isD ?_; intro sx Ax kx cx hvx hwx))
      go_simp
      (with_reducible exact grow_d (same_d (Lib.hid (HX.out.only hox)) bx (by omega) (Lib.hid (hT.out.keep hk.only))))
    refine owes2_cons (fun wx hox => ?_) ?_
    · skip
      have hk := HK.out.step hox
      obtain ⟨i0, i1, i2, -, -, -⟩ := hk.c3 1 rfl
      refine withs_plain rfl ?_
      simp only [withs, List.getElem?_cons_zero, List.getElem?_cons_succ, Option.bind, Option.getD]
      repeat (first | (with_reducible refine all_isV ?_) | (with_reducible refine all_isD ?_; intro sx Ax kx cx hvx hwx))
      go_simp
      exact ⟨Only.refl _ _, isV.self _ _⟩
    refine owes2_cons (fun wx hox => ?_) ?_
    · skip
      have hk := HK.out.step hox
      obtain ⟨i0, i1, i2, -, -, -⟩ := hk.c3 1 rfl
      refine withs_plain rfl ?_
      simp only [withs, List.getElem?_cons_zero, List.getElem?_cons_succ, Option.bind, Option.getD]
      repeat (first | (with_reducible refine all_isV ?_) | (with_reducible refine all_isD ?_; intro sx Ax kx cx hvx hwx))
      go_simp
      (with_reducible exact grow_d (same_d (Lib.hid (HX.out.only hox)) bx (by omega) (Lib.hid (hT.out.keep hk.only))))
    exact owes2_nil
  case he =>
    simp only [List.drop_succ_cons, List.drop_zero]
    intro wx hox
    refine withs_of (by simp only [List.length, List.range, List.range.loop]; exact rfl) ?_
    simp only [withs, List.getElem?_cons_zero, List.getElem?_cons_succ, Option.bind, Option.getD]
    with_reducible refine all_isV ?_
    with_reducible refine all_isD ?_
    intro s1 A1 k1 c1 hv1 hw1
    with_reducible refine all_isV ?_
    with_reducible refine all_isD ?_
    intro s3 A3 k3 c3 hv3 hw3
    go_simp
    have hk := HK.out.step hox
    obtain ⟨q0, q1, q2, q3, q4, q5⟩ := hk.c6 0 rfl
    obtain ⟨f0, f1, f2, f3, f4, f5⟩ := hk.f6 0 rfl
    have HB := Lib.hid (hk.blk 0 rfl)
    have HO := Lib.hid hk.only
    clear hk hox HK
    generalize nrm x.z x.e = rx at *
    go_wp2_with fail
    refine bodyPost_ret (v := .agg #[.bool s1, .slice A1 k1 c1, .int .i64 (rx.e), .bool s3, .slice A3 k3 c3, .int .i64 (rx.e)]) (by simp [results, Tryd.results37, go_sem, q0, q1, q2, q3, q4, q5]) rfl ?_
    exact bfin hw1 hv1 hw3 hv3 (by omega) HB.out (noLimb6 _ _ _ _ _ _ _ _ _ _) HO.out (only_set6 _ _ _ _ _ _ _ _)
  case hl =>
    repeat (refine List.forall_mem_cons.2 ⟨?_, ?_⟩; first | exact isV.lasts _ | exact isD.lasts _)
    exact fun _ h => (by cases h)
set_option maxHeartbeats 3200000 in
set_option maxRecDepth 100000 in
theorem add_b {w : World} {a b : Value} {x y u v : Dy} {N : Nat} (p : Int) (lo hi : Dy) (hlo : rndD (widthP p) false (dAdd x u) = lo) (hhi : rndD (widthP p) true (dAdd y v) = hi) (ha : Hid (BV w a x y)) (hb : Hid (BV w b u v)) (bx : Hid (Bnd N x)) (by_ : Hid (Bnd N y)) (bu : Hid (Bnd N u)) (bv : Hid (Bnd N v)) (hN : N ≤ 100000) (hT : Hid (Tab6 w)) : Calls Tryd.prog 39 #[a, b, .int .i64 p] w (BPost lo hi w) := by
  obtain ⟨s1, A1, k1, c1, t1, B1, m1, d1, rfl, hx1, hy1⟩ := ha.out
  obtain ⟨s2, A2, k2, c2, t2, B2, m2, d2, rfl, hx2, hy2⟩ := hb.out
  have hk := (((KB.start w).new 51 [.bool s1, .slice A1 k1 c1, .int .i64 x.e, .bool t1, .slice B1 m1 d1, .int .i64 y.e]).new 51 [.bool s2, .slice A2 k2 c2, .int .i64 u.e, .bool t2, .slice B2 m2 d2, .int .i64 v.e]).new 51 [.bool false, .slice none 0 0, .int .i64 0, .bool false, .slice none 0 0, .int .i64 0]
  simp only [World.size_alloc] at hk
  have HX1 := Lib.hid (hx1.only hk.only)
  have HX2 := Lib.hid (hy1.only hk.only)
  have HY1 := Lib.hid (hx2.only hk.only)
  have HY2 := Lib.hid (hy2.only hk.only)
  have HK := Lib.hid hk
  have HLo : Hid (rndD (widthP p) (decide ((0 : Int) ≤ -1)) (dAdd x u) = lo) := hlo
  have HHi : Hid (rndD (widthP p) (decide ((0 : Int) ≤ 1)) (dAdd y v) = hi) := hhi
  have BA : Hid (Bnd (4 * N + 1) (dAdd x u)) := bx.out.add bu.out (by omega)
  have BB_ : Hid (Bnd (4 * N + 1) (dAdd y v)) := by_.out.add bv.out (by omega)
  clear hk hx1 hy1 hx2 hy2 ha hb hlo hhi
  go_enter Tryd.func39, Tryd.ntmps39
  go_upto_region 1 with fail
  apply wp_region_typed_tail2 14 (by kernel_rfl) [isV _, isV _, isV _, isV _, isD (dAdd x u), isV _, isD lo, isV _, isV _, isV _, isV _, isD (dAdd y v), isV _, isD hi] [[], [0], [], [2], [1, 3], [], [4, 5], [], [7], [], [9], [8, 10], [], [11, 12]] (by kernel_rfl) (by kernel_rfl) (by kernel_rfl)
  case ho =>
    simp only [List.take_succ_cons, List.take_zero]
    refine owes2_cons (fun wx hox => ?_) ?_
    · skip
      refine withs_plain rfl ?_
      simp only [withs, List.getElem?_cons_zero, List.getElem?_cons_succ, Option.bind, Option.getD]
      repeat (first | (with_reducible refine all_isV ?_) | (with_reducible refine all_isD ?_; intro sx Ax kx cx hvx hwx))
      go_simp
      exact ⟨Only.refl _ _, isV.self _ _⟩
    refine owes2_cons (fun wx hox => ?_) ?_
    · skip
      have hk := HK.out.step hox
      obtain ⟨i0, i1, i2, i3, i4, i5⟩ := hk.c6 2 rfl
      obtain ⟨j0, j1, j2, j3, j4, j5⟩ := hk.c6 1 rfl
      refine withs_plain rfl ?_
      simp only [withs, List.getElem?_cons_zero, List.getElem?_cons_succ, Option.bind, Option.getD]
      repeat (first | (with_reducible refine all_isV ?_) | (with_reducible refine all_isD ?_; intro sx Ax kx cx hvx hwx))
      go_simp
      exact ⟨Only.refl _ _, isV.self _ _⟩
    refine owes2_cons (fun wx hox => ?_) ?_
    · skip
      refine withs_plain rfl ?_
      simp only [withs, List.getElem?_cons_zero, List.getElem?_cons_succ, Option.bind, Option.getD]
      repeat (first | (with_reducible refine all_isV ?_) | (with_reducible refine all_isD ?_; intro sx Ax kx cx hvx hwx))
      go_simp
      exact ⟨Only.refl _ _, isV.self _ _⟩
    refine owes2_cons (fun wx hox => ?_) ?_
    · skip
      have hk := HK.out.step hox
      obtain ⟨i0, i1, i2, i3, i4, i5⟩ := hk.c6 2 rfl
      obtain ⟨j0, j1, j2, j3, j4, j5⟩ := hk.c6 1 rfl
      refine withs_plain rfl ?_
      simp only [withs, List.getElem?_cons_zero, List.getElem?_cons_succ, Option.bind, Option.getD]
      repeat (first | (with_reducible refine all_isV ?_) | (with_reducible refine all_isD ?_; intro sx Ax kx cx hvx hwx))
      go_simp
      exact ⟨Only.refl _ _, isV.self _ _⟩
    refine owes2_cons (fun wx hox => ?_) ?_
    · skip
      have hk := HK.out.step hox
      obtain ⟨i0, i1, i2, i3, i4, i5⟩ := hk.c6 2 rfl
      obtain ⟨j0, j1, j2, j3, j4, j5⟩ := hk.c6 1 rfl
      refine withs_plain rfl ?_
      simp only [withs, List.getElem?_cons_zero, List.getElem?_cons_succ, Option.bind, Option.getD]
      repeat (first | (with_reducible refine all_isV ?_) | (with_reducible refine all_isD ?_; intro sx Ax kx cx hvx hwx))
      go_simp
      (with_reducible exact grow_d (add_d (DV.of (Lib.hid (HX1.out.only hox))) (DV.of (Lib.hid (HY1.out.only hox))) bx bu (by omega) (Lib.hid (hT.out.keep hk.only))))
    refine owes2_cons (fun wx hox => ?_) ?_
    · skip
      refine withs_plain rfl ?_
      simp only [withs, List.getElem?_cons_zero, List.getElem?_cons_succ, Option.bind, Option.getD]
      repeat (first | (with_reducible refine all_isV ?_) | (with_reducible refine all_isD ?_; intro sx Ax kx cx hvx hwx))
      go_simp
      exact ⟨Only.refl _ _, isV.self _ _⟩
    refine owes2_cons (fun wx hox => ?_) ?_
    · skip
      have hk := HK.out.step hox
      obtain ⟨i0, i1, i2, i3, i4, i5⟩ := hk.c6 2 rfl
      obtain ⟨j0, j1, j2, j3, j4, j5⟩ := hk.c6 1 rfl
      refine withs_plain rfl ?_
      simp only [withs, List.getElem?_cons_zero, List.getElem?_cons_succ, Option.bind, Option.getD]
      repeat (first | (with_reducible refine all_isV ?_) | (with_reducible refine all_isD ?_; intro sx Ax kx cx hvx hwx))
      go_simp
      (with_reducible exact grow_d (roundV_d p (-1) lo HLo.out (DV.of (by assumption)) BA (by omega) (Lib.hid (hT.out.keep hk.only))))
    refine owes2_cons (fun wx hox => ?_) ?_
    · skip
      refine withs_plain rfl ?_
      simp only [withs, List.getElem?_cons_zero, List.getElem?_cons_succ, Option.bind, Option.getD]
      repeat (first | (with_reducible refine all_isV ?_) | (with_reducible refine all_isD ?_; intro sx Ax kx cx hvx hwx))
      go_simp
      exact ⟨Only.refl _ _, isV.self _ _⟩
    refine owes2_cons (fun wx hox => ?_) ?_
    · skip
      have hk := HK.out.step hox
      obtain ⟨i0, i1, i2, i3, i4, i5⟩ := hk.c6 2 rfl
      obtain ⟨j0, j1, j2, j3, j4, j5⟩ := hk.c6 1 rfl
      refine withs_plain rfl ?_
      simp only [withs, List.getElem?_cons_zero, List.getElem?_cons_succ, Option.bind, Option.getD]
      repeat (first | (with_reducible refine all_isV ?_) | (with_reducible refine all_isD ?_; intro sx Ax kx cx hvx hwx))
      go_simp
      exact ⟨Only.refl _ _, isV.self _ _⟩
    refine owes2_cons (fun wx hox => ?_) ?_
    · skip
      refine withs_plain rfl ?_
      simp only [withs, List.getElem?_cons_zero, List.getElem?_cons_succ, Option.bind, Option.getD]
      repeat (first | (with_reducible refine all_isV ?_) | (with_reducible refine all_isD ?_; intro sx Ax kx cx hvx hwx))
      go_simp
      exact ⟨Only.refl _ _, isV.self _ _⟩
    refine owes2_cons (fun wx hox => ?_) ?_
    · skip
      have hk := HK.out.step hox
      obtain ⟨i0, i1, i2, i3, i4, i5⟩ := hk.c6 2 rfl
      obtain ⟨j0, j1, j2, j3, j4, j5⟩ := hk.c6 1 rfl
      refine withs_plain rfl ?_
      simp only [withs, List.getElem?_cons_zero, List.getElem?_cons_succ, Option.bind, Option.getD]
      repeat (first | (with_reducible refine all_isV ?_) | (with_reducible refine all_isD ?_; intro sx Ax kx cx hvx hwx))
      go_simp
      exact ⟨Only.refl _ _, isV.self _ _⟩
    refine owes2_cons (fun wx hox => ?_) ?_
    · skip
      have hk := HK.out.step hox
      obtain ⟨i0, i1, i2, i3, i4, i5⟩ := hk.c6 2 rfl
      obtain ⟨j0, j1, j2, j3, j4, j5⟩ := hk.c6 1 rfl
      refine withs_plain rfl ?_
      simp only [withs, List.getElem?_cons_zero, List.getElem?_cons_succ, Option.bind, Option.getD]
      repeat (first | (with_reducible refine all_isV ?_) | (with_reducible refine all_isD ?_; intro sx Ax kx cx hvx hwx))
      go_simp
      (with_reducible exact grow_d (add_d (DV.of (Lib.hid (HX2.out.only hox))) (DV.of (Lib.hid (HY2.out.only hox))) by_ bv (by omega) (Lib.hid (hT.out.keep hk.only))))
    refine owes2_cons (fun wx hox => ?_) ?_
    · skip
      refine withs_plain rfl ?_
      simp only [withs, List.getElem?_cons_zero, List.getElem?_cons_succ, Option.bind, Option.getD]
      repeat (first | (with_reducible refine all_isV ?_) | (with_reducible refine all_isD ?_; intro sx Ax kx cx hvx hwx))
      go_simp
      exact ⟨Only.refl _ _, isV.self _ _⟩
    refine owes2_cons (fun wx hox => ?_) ?_
    · skip
      have hk := HK.out.step hox
      obtain ⟨i0, i1, i2, i3, i4, i5⟩ := hk.c6 2 rfl
      obtain ⟨j0, j1, j2, j3, j4, j5⟩ := hk.c6 1 rfl
      refine withs_plain rfl ?_
      simp only [withs, List.getElem?_cons_zero, List.getElem?_cons_succ, Option.bind, Option.getD]
      repeat (first | (with_reducible refine all_isV ?_) | (with_reducible refine all_isD ?_; intro sx Ax kx cx hvx hwx))
      go_simp
      (with_reducible exact grow_d (roundV_d p 1 hi HHi.out (DV.of (by assumption)) BB_ (by omega) (Lib.hid (hT.out.keep hk.only))))
    exact owes2_nil
  case he =>
    simp only [List.drop_succ_cons, List.drop_zero]
    intro wx hox
    refine withs_of (by simp only [List.length, List.range, List.range.loop]; exact rfl) ?_
    simp only [withs, List.getElem?_cons_zero, List.getElem?_cons_succ, Option.bind, Option.getD]
    with_reducible refine all_isV ?_
    with_reducible refine all_isV ?_
    with_reducible refine all_isV ?_
    with_reducible refine all_isV ?_
    with_reducible refine all_isD ?_
    intro s4 A4 k4 c4 hv4 hw4
    with_reducible refine all_isV ?_
    with_reducible refine all_isD ?_
    intro s6 A6 k6 c6 hv6 hw6
    with_reducible refine all_isV ?_
    with_reducible refine all_isV ?_
    with_reducible refine all_isV ?_
    with_reducible refine all_isV ?_
    with_reducible refine all_isD ?_
    intro s11 A11 k11 c11 hv11 hw11
    with_reducible refine all_isV ?_
    with_reducible refine all_isD ?_
    intro s13 A13 k13 c13 hv13 hw13
    go_simp
    have hk := HK.out.step hox
    obtain ⟨q0, q1, q2, q3, q4, q5⟩ := hk.c6 0 rfl
    obtain ⟨f0, f1, f2, f3, f4, f5⟩ := hk.f6 0 rfl
    have HB := Lib.hid (hk.blk 0 rfl)
    have HO := Lib.hid hk.only
    clear hk hox HK
    go_wp2_with fail
    refine bodyPost_ret (v := .agg #[.bool s6, .slice A6 k6 c6, .int .i64 (lo.e), .bool s13, .slice A13 k13 c13, .int .i64 (hi.e)]) (by simp [results, Tryd.results39, go_sem, q0, q1, q2, q3, q4, q5]) rfl ?_
    exact bfin hw6 hv6 hw13 hv13 (by omega) HB.out (noLimb6 _ _ _ _ _ _ _ _ _ _) HO.out (only_set6 _ _ _ _ _ _ _ _)
  case hl =>
    repeat (refine List.forall_mem_cons.2 ⟨?_, ?_⟩; first | exact isV.lasts _ | exact isD.lasts _)
    exact fun _ h => (by cases h)
set_option maxHeartbeats 3200000 in
set_option maxRecDepth 100000 in
theorem sub_b {w : World} {a b : Value} {x y u v : Dy} {N : Nat} (p : Int) (lo hi : Dy) (hlo : rndD (widthP p) false (dSub x v) = lo) (hhi : rndD (widthP p) true (dSub y u) = hi) (ha : Hid (BV w a x y)) (hb : Hid (BV w b u v)) (bx : Hid (Bnd N x)) (by_ : Hid (Bnd N y)) (bu : Hid (Bnd N u)) (bv : Hid (Bnd N v)) (hN : N ≤ 100000) (hT : Hid (Tab6 w)) : Calls Tryd.prog 40 #[a, b, .int .i64 p] w (BPost lo hi w) := by
  obtain ⟨s1, A1, k1, c1, t1, B1, m1, d1, rfl, hx1, hy1⟩ := ha.out
  obtain ⟨s2, A2, k2, c2, t2, B2, m2, d2, rfl, hx2, hy2⟩ := hb.out
  have hk := (((KB.start w).new 51 [.bool s1, .slice A1 k1 c1, .int .i64 x.e, .bool t1, .slice B1 m1 d1, .int .i64 y.e]).new 51 [.bool s2, .slice A2 k2 c2, .int .i64 u.e, .bool t2, .slice B2 m2 d2, .int .i64 v.e]).new 51 [.bool false, .slice none 0 0, .int .i64 0, .bool false, .slice none 0 0, .int .i64 0]
  simp only [World.size_alloc] at hk
  have HX1 := Lib.hid (hx1.only hk.only)
  have HX2 := Lib.hid (hy1.only hk.only)
  have HY1 := Lib.hid (hx2.only hk.only)
  have HY2 := Lib.hid (hy2.only hk.only)
  have HK := Lib.hid hk
  have HLo : Hid (rndD (widthP p) (decide ((0 : Int) ≤ -1)) (dSub x v) = lo) := hlo
  have HHi : Hid (rndD (widthP p) (decide ((0 : Int) ≤ 1)) (dSub y u) = hi) := hhi
  have BA : Hid (Bnd (8 * N + 1) (dSub x v)) := bx.out.sub bv.out (by omega)
  have BB_ : Hid (Bnd (8 * N + 1) (dSub y u)) := by_.out.sub bu.out (by omega)
  clear hk hx1 hy1 hx2 hy2 ha hb hlo hhi
  go_enter Tryd.func40, Tryd.ntmps40
  go_upto_region 1 with fail
  apply wp_region_typed_tail2 14 (by kernel_rfl) [isV _, isV _, isV _, isV _, isD (dSub x v), isV _, isD lo, isV _, isV _, isV _, isV _, isD (dSub y u), isV _, isD hi] [[], [0], [], [2], [1, 3], [], [4, 5], [], [7], [], [9], [8, 10], [], [11, 12]] (by kernel_rfl) (by kernel_rfl) (by kernel_rfl)
  case ho =>
    simp only [List.take_succ_cons, List.take_zero]
    refine owes2_cons (fun wx hox => ?_) ?_
    · skip
      refine withs_plain rfl ?_
      simp only [withs, List.getElem?_cons_zero, List.getElem?_cons_succ, Option.bind, Option.getD]
      repeat (first | (with_reducible refine all_isV ?_) | (with_reducible refine all_isD ?_; intro sx Ax kx cx hvx hwx))
      go_simp
      exact ⟨Only.refl _ _, isV.self _ _⟩
    refine owes2_cons (fun wx hox => ?_) ?_
    · skip
      have hk := HK.out.step hox
      obtain ⟨i0, i1, i2, i3, i4, i5⟩ := hk.c6 2 rfl
      obtain ⟨j0, j1, j2, j3, j4, j5⟩ := hk.c6 1 rfl
      refine withs_plain rfl ?_
      simp only [withs, List.getElem?_cons_zero, List.getElem?_cons_succ, Option.bind, Option.getD]
      repeat (first | (with_reducible refine all_isV ?_) | (with_reducible refine all_isD ?_; intro sx Ax kx cx hvx hwx))
      go_simp
      exact ⟨Only.refl _ _, isV.self _ _⟩
    refine owes2_cons (fun wx hox => ?_) ?_
    · skip
      refine withs_plain rfl ?_
      simp only [withs, List.getElem?_cons_zero, List.getElem?_cons_succ, Option.bind, Option.getD]
      repeat (first | (with_reducible refine all_isV ?_) | (with_reducible refine all_isD ?_; intro sx Ax kx cx hvx hwx))
      go_simp
      exact ⟨Only.refl _ _, isV.self _ _⟩
    refine owes2_cons (fun wx hox => ?_) ?_
    · skip
      have hk := HK.out.step hox
      obtain ⟨i0, i1, i2, i3, i4, i5⟩ := hk.c6 2 rfl
      obtain ⟨j0, j1, j2, j3, j4, j5⟩ := hk.c6 1 rfl
      refine withs_plain rfl ?_
      simp only [withs, List.getElem?_cons_zero, List.getElem?_cons_succ, Option.bind, Option.getD]
      repeat (first | (with_reducible refine all_isV ?_) | (with_reducible refine all_isD ?_; intro sx Ax kx cx hvx hwx))
      go_simp
      exact ⟨Only.refl _ _, isV.self _ _⟩
    refine owes2_cons (fun wx hox => ?_) ?_
    · skip
      have hk := HK.out.step hox
      obtain ⟨i0, i1, i2, i3, i4, i5⟩ := hk.c6 2 rfl
      obtain ⟨j0, j1, j2, j3, j4, j5⟩ := hk.c6 1 rfl
      refine withs_plain rfl ?_
      simp only [withs, List.getElem?_cons_zero, List.getElem?_cons_succ, Option.bind, Option.getD]
      repeat (first | (with_reducible refine all_isV ?_) | (with_reducible refine all_isD ?_; intro sx Ax kx cx hvx hwx))
      go_simp
      (with_reducible exact grow_d (sub_d (DV.of (Lib.hid (HX1.out.only hox))) (DV.of (Lib.hid (HY2.out.only hox))) bx bv (by omega) (Lib.hid (hT.out.keep hk.only))))
    refine owes2_cons (fun wx hox => ?_) ?_
    · skip
      refine withs_plain rfl ?_
      simp only [withs, List.getElem?_cons_zero, List.getElem?_cons_succ, Option.bind, Option.getD]
      repeat (first | (with_reducible refine all_isV ?_) | (with_reducible refine all_isD ?_; intro sx Ax kx cx hvx hwx))
      go_simp
      exact ⟨Only.refl _ _, isV.self _ _⟩
    refine owes2_cons (fun wx hox => ?_) ?_
    · skip
      have hk := HK.out.step hox
      obtain ⟨i0, i1, i2, i3, i4, i5⟩ := hk.c6 2 rfl
      obtain ⟨j0, j1, j2, j3, j4, j5⟩ := hk.c6 1 rfl
      refine withs_plain rfl ?_
      simp only [withs, List.getElem?_cons_zero, List.getElem?_cons_succ, Option.bind, Option.getD]
      repeat (first | (with_reducible refine all_isV ?_) | (with_reducible refine all_isD ?_; intro sx Ax kx cx hvx hwx))
      go_simp
      (with_reducible exact grow_d (roundV_d p (-1) lo HLo.out (DV.of (by assumption)) BA (by omega) (Lib.hid (hT.out.keep hk.only))))
    refine owes2_cons (fun wx hox => ?_) ?_
    · skip
      refine withs_plain rfl ?_
      simp only [withs, List.getElem?_cons_zero, List.getElem?_cons_succ, Option.bind, Option.getD]
      repeat (first | (with_reducible refine all_isV ?_) | (with_reducible refine all_isD ?_; intro sx Ax kx cx hvx hwx))
      go_simp
      exact ⟨Only.refl _ _, isV.self _ _⟩
    refine owes2_cons (fun wx hox => ?_) ?_
    · skip
      have hk := HK.out.step hox
      obtain ⟨i0, i1, i2, i3, i4, i5⟩ := hk.c6 2 rfl
      obtain ⟨j0, j1, j2, j3, j4, j5⟩ := hk.c6 1 rfl
      refine withs_plain rfl ?_
      simp only [withs, List.getElem?_cons_zero, List.getElem?_cons_succ, Option.bind, Option.getD]
      repeat (first | (with_reducible refine all_isV ?_) | (with_reducible refine all_isD ?_; intro sx Ax kx cx hvx hwx))
      go_simp
      exact ⟨Only.refl _ _, isV.self _ _⟩
    refine owes2_cons (fun wx hox => ?_) ?_
    · skip
      refine withs_plain rfl ?_
      simp only [withs, List.getElem?_cons_zero, List.getElem?_cons_succ, Option.bind, Option.getD]
      repeat (first | (with_reducible refine all_isV ?_) | (with_reducible refine all_isD ?_; intro sx Ax kx cx hvx hwx))
      go_simp
      exact ⟨Only.refl _ _, isV.self _ _⟩
    refine owes2_cons (fun wx hox => ?_) ?_
    · skip
      have hk := HK.out.step hox
      obtain ⟨i0, i1, i2, i3, i4, i5⟩ := hk.c6 2 rfl
      obtain ⟨j0, j1, j2, j3, j4, j5⟩ := hk.c6 1 rfl
      refine withs_plain rfl ?_
      simp only [withs, List.getElem?_cons_zero, List.getElem?_cons_succ, Option.bind, Option.getD]
      repeat (first | (with_reducible refine all_isV ?_) | (with_reducible refine all_isD ?_; intro sx Ax kx cx hvx hwx))
      go_simp
      exact ⟨Only.refl _ _, isV.self _ _⟩
    refine owes2_cons (fun wx hox => ?_) ?_
    · skip
      have hk := HK.out.step hox
      obtain ⟨i0, i1, i2, i3, i4, i5⟩ := hk.c6 2 rfl
      obtain ⟨j0, j1, j2, j3, j4, j5⟩ := hk.c6 1 rfl
      refine withs_plain rfl ?_
      simp only [withs, List.getElem?_cons_zero, List.getElem?_cons_succ, Option.bind, Option.getD]
      repeat (first | (with_reducible refine all_isV ?_) | (with_reducible refine all_isD ?_; intro sx Ax kx cx hvx hwx))
      go_simp
      (with_reducible exact grow_d (sub_d (DV.of (Lib.hid (HX2.out.only hox))) (DV.of (Lib.hid (HY1.out.only hox))) by_ bu (by omega) (Lib.hid (hT.out.keep hk.only))))
    refine owes2_cons (fun wx hox => ?_) ?_
    · skip
      refine withs_plain rfl ?_
      simp only [withs, List.getElem?_cons_zero, List.getElem?_cons_succ, Option.bind, Option.getD]
      repeat (first | (with_reducible refine all_isV ?_) | (with_reducible refine all_isD ?_; intro sx Ax kx cx hvx hwx))
      go_simp
      exact ⟨Only.refl _ _, isV.self _ _⟩
    refine owes2_cons (fun wx hox => ?_) ?_
    · skip
      have hk := HK.out.step hox
      obtain ⟨i0, i1, i2, i3, i4, i5⟩ := hk.c6 2 rfl
      obtain ⟨j0, j1, j2, j3, j4, j5⟩ := hk.c6 1 rfl
      refine withs_plain rfl ?_
      simp only [withs, List.getElem?_cons_zero, List.getElem?_cons_succ, Option.bind, Option.getD]
      repeat (first | (with_reducible refine all_isV ?_) | (with_reducible refine all_isD ?_; intro sx Ax kx cx hvx hwx))
      go_simp
      (with_reducible exact grow_d (roundV_d p 1 hi HHi.out (DV.of (by assumption)) BB_ (by omega) (Lib.hid (hT.out.keep hk.only))))
    exact owes2_nil
  case he =>
    simp only [List.drop_succ_cons, List.drop_zero]
    intro wx hox
    refine withs_of (by simp only [List.length, List.range, List.range.loop]; exact rfl) ?_
    simp only [withs, List.getElem?_cons_zero, List.getElem?_cons_succ, Option.bind, Option.getD]
    with_reducible refine all_isV ?_
    with_reducible refine all_isV ?_
    with_reducible refine all_isV ?_
    with_reducible refine all_isV ?_
    with_reducible refine all_isD ?_
    intro s4 A4 k4 c4 hv4 hw4
    with_reducible refine all_isV ?_
    with_reducible refine all_isD ?_
    intro s6 A6 k6 c6 hv6 hw6
    with_reducible refine all_isV ?_
    with_reducible refine all_isV ?_
    with_reducible refine all_isV ?_
    with_reducible refine all_isV ?_
    with_reducible refine all_isD ?_
    intro s11 A11 k11 c11 hv11 hw11
    with_reducible refine all_isV ?_
    with_reducible refine all_isD ?_
    intro s13 A13 k13 c13 hv13 hw13
    go_simp
    have hk := HK.out.step hox
    obtain ⟨q0, q1, q2, q3, q4, q5⟩ := hk.c6 0 rfl
    obtain ⟨f0, f1, f2, f3, f4, f5⟩ := hk.f6 0 rfl
    have HB := Lib.hid (hk.blk 0 rfl)
    have HO := Lib.hid hk.only
    clear hk hox HK
    go_wp2_with fail
    refine bodyPost_ret (v := .agg #[.bool s6, .slice A6 k6 c6, .int .i64 (lo.e), .bool s13, .slice A13 k13 c13, .int .i64 (hi.e)]) (by simp [results, Tryd.results40, go_sem, q0, q1, q2, q3, q4, q5]) rfl ?_
    exact bfin hw6 hv6 hw13 hv13 (by omega) HB.out (noLimb6 _ _ _ _ _ _ _ _ _ _) HO.out (only_set6 _ _ _ _ _ _ _ _)
  case hl =>
    repeat (refine List.forall_mem_cons.2 ⟨?_, ?_⟩; first | exact isV.lasts _ | exact isD.lasts _)
    exact fun _ h => (by cases h)

end Go.Proofs.YtgiejjpemhceiaaDoor
