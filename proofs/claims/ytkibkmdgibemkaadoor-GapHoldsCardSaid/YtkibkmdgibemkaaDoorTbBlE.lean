/-
  compasslaw3.Real.
-/
import Derived.Test.YtkibkmdgibemkaaDoorTbZDy
import Derived.Test.YtkibkmdgibemkaaDoorTbGRd
namespace Go.Proofs.YtkibkmdgibemkaaDoor
set_option linter.unusedSimpArgs false
open Go.RowKit

theorem grow_limbs {w : World} {A : Option Addr} {k c n : Nat} (h : RV w (.slice A k c) n) (hf : Hid (Few n)) : Calls Tryd.prog 50 #[.slice A k c] w fun e w'' => ∃ u, e = .returned u ∧ Only [] w w'' ∧ isNV n u w'' := by
  obtain ⟨A', c', e, h2, h3⟩ := h
  injection e with e1 e2 e3
  subst e1 e2 e3
  refine (limbs_any A _ c (R.limbsOf n) w (Lib.hid h2) (Lib.hid (R.limb_limbsOf n)) (Lib.hid rfl) (by have := hf.out.digits; omega)).mono ?_
  rintro e w1 ⟨B, m, d, rfl, hat, -, ho⟩
  rw [R.join_digits] at hat
  obtain ⟨C, d', e, g1, g2, g3⟩ := LimbsAt.shape hat
  injection e with e1 e2 e3
  subst e1 e2 e3
  have hl := hf.out.len
  exact ⟨_, rfl, ho, _, _, _, rfl, ⟨_, _, _, rfl, ⟨g1, limb_limbsOf n, by omega⟩, g2, hl, val_limbsOf n⟩⟩
theorem iswv_of {w : World} {s : Bool} {A : Option Addr} {k c : Nat} {z : Int} (h : Hid (NV w (.slice A k c) z.natAbs)) (hs : sg s z.natAbs = z) : isWV z (.agg #[.bool s, .slice A k c]) w := by
  have := IV.mk (s := s) h.out
  rw [hs] at this
  exact ⟨s, A, k, c, rfl, this⟩
theorem isdv_of {w : World} {x : Dy} {s : Bool} {A : Option Addr} {k c : Nat} (h : Hid (IV w (.agg #[.bool s, .slice A k c]) x.z)) : isDV x (.agg #[.bool s, .slice A k c, .int .i64 x.e]) w := ⟨s, A, k, c, rfl, h.out⟩
theorem rlfin {x : Dy} {w w1 w2 : World} {b : Nat} {t : TypeId} {cs : List Value} {s : Bool} {A : Option Addr} {k c : Nat} (hv : Hid (IV w1 (.agg #[.bool s, .slice A k c]) x.z)) (hB : Blk w1 b t cs) (hn : NoLimb cs) (hb : w.heap.size ≤ b) (ho : Only [] w w1) (ho2 : Only [b] w1 w2) : DVPost x w (.returned (.agg #[.bool s, .slice A k c, .int .i64 x.e])) w2 := by
  have h := hv.out
  exact ⟨s, A, k, c, rfl, h.farS ho2 (fun g hg => by rw [List.mem_singleton] at hg; subst hg; exact h.far_blk hB hn), ho.trans ho2 (fun k hk => .inr (by simp at hk; omega))⟩
set_option maxHeartbeats 8000000 in
set_option maxRecDepth 100000 in
theorem real_d {w : World} {a : Value} {x : Dy} {N : Nat} (ha : Hid (RD w a x)) (bx : Hid (Bnd N x)) (hN : N ≤ 8000000) : Calls Tryd.prog 9 #[a] w (DVPost x w) := by
  have HF : Hid (Few x.z.natAbs) := rd_few bx.out hN
  obtain ⟨s, A, k, c, rfl, hc, hv⟩ := ha.out
  have HS : Hid (sg s x.z.natAbs = x.z) := RD.sgn hc
  have hk := ((KB.start w).new 31 [.bool s, .slice A k c, .int .i64 x.e]).new 37 [.bool false, .slice none 0 0, .int .i64 0]
  simp only [World.size_alloc] at hk
  have HR : Hid (RV _ (.slice A k c) x.z.natAbs) := hv.only hk.only
  have HK := Lib.hid hk
  clear hk hv hc ha
  go_enter Tryd.func9, Tryd.ntmps9
  go_upto_region 1 with fail
  apply wp_region_typed_tail2 9 (by kernel_rfl) [isV _, isV _, isV _, isV _, isNV x.z.natAbs, isWV x.z, isV _, isV _, isDV x] [[], [0], [], [2], [3], [1, 4], [], [6], [5, 7]] (by kernel_rfl) (by kernel_rfl) (by kernel_rfl)
  case ho =>
    simp only [List.take_succ_cons, List.take_zero]
    refine owes2_cons (fun wx hox => ?_) ?_
    · skip
      skip
      refine withs_plain rfl ?_
      simp only [withs, List.getElem?_cons_zero, List.getElem?_cons_succ, Option.bind, Option.getD]
      repeat (first | (with_reducible refine all_isV ?_) | (with_reducible refine all_isNV ?_; intro Ax kx cx hvx) | (with_reducible refine all_isDV ?_; intro sx Ax kx cx hvx) | (with_reducible refine all_isWV ?_; intro sx Ax kx cx hvx))
      go_simp
      exact ⟨Only.refl _ _, isV.self _ _⟩
    refine owes2_cons (fun wx hox => ?_) ?_
    · skip
      have hk := HK.out.step hox
      obtain ⟨i0, i1, i2, -, -, -⟩ := hk.c3 1 rfl
      refine withs_plain rfl ?_
      simp only [withs, List.getElem?_cons_zero, List.getElem?_cons_succ, Option.bind, Option.getD]
      repeat (first | (with_reducible refine all_isV ?_) | (with_reducible refine all_isNV ?_; intro Ax kx cx hvx) | (with_reducible refine all_isDV ?_; intro sx Ax kx cx hvx) | (with_reducible refine all_isWV ?_; intro sx Ax kx cx hvx))
      go_simp
      exact ⟨Only.refl _ _, isV.self _ _⟩
    refine owes2_cons (fun wx hox => ?_) ?_
    · skip
      skip
      refine withs_plain rfl ?_
      simp only [withs, List.getElem?_cons_zero, List.getElem?_cons_succ, Option.bind, Option.getD]
      repeat (first | (with_reducible refine all_isV ?_) | (with_reducible refine all_isNV ?_; intro Ax kx cx hvx) | (with_reducible refine all_isDV ?_; intro sx Ax kx cx hvx) | (with_reducible refine all_isWV ?_; intro sx Ax kx cx hvx))
      go_simp
      exact ⟨Only.refl _ _, isV.self _ _⟩
    refine owes2_cons (fun wx hox => ?_) ?_
    · skip
      have hk := HK.out.step hox
      obtain ⟨i0, i1, i2, -, -, -⟩ := hk.c3 1 rfl
      refine withs_plain rfl ?_
      simp only [withs, List.getElem?_cons_zero, List.getElem?_cons_succ, Option.bind, Option.getD]
      repeat (first | (with_reducible refine all_isV ?_) | (with_reducible refine all_isNV ?_; intro Ax kx cx hvx) | (with_reducible refine all_isDV ?_; intro sx Ax kx cx hvx) | (with_reducible refine all_isWV ?_; intro sx Ax kx cx hvx))
      go_simp
      exact ⟨Only.refl _ _, isV.self _ _⟩
    refine owes2_cons (fun wx hox => ?_) ?_
    · skip
      have hk := HK.out.step hox
      obtain ⟨i0, i1, i2, -, -, -⟩ := hk.c3 1 rfl
      refine withs_plain rfl ?_
      simp only [withs, List.getElem?_cons_zero, List.getElem?_cons_succ, Option.bind, Option.getD]
      repeat (first | (with_reducible refine all_isV ?_) | (with_reducible refine all_isNV ?_; intro Ax kx cx hvx) | (with_reducible refine all_isDV ?_; intro sx Ax kx cx hvx) | (with_reducible refine all_isWV ?_; intro sx Ax kx cx hvx))
      go_simp
      (with_reducible exact grow_limbs (HR.out.only hox) HF)
    refine owes2_cons (fun wx hox => ?_) ?_
    · skip
      have hk := HK.out.step hox
      obtain ⟨i0, i1, i2, -, -, -⟩ := hk.c3 1 rfl
      refine withs_plain rfl ?_
      simp only [withs, List.getElem?_cons_zero, List.getElem?_cons_succ, Option.bind, Option.getD]
      repeat (first | (with_reducible refine all_isV ?_) | (with_reducible refine all_isNV ?_; intro Ax kx cx hvx) | (with_reducible refine all_isDV ?_; intro sx Ax kx cx hvx) | (with_reducible refine all_isWV ?_; intro sx Ax kx cx hvx))
      go_simp
      (exact ⟨Only.refl _ _, iswv_of (by assumption) HS.out⟩)
    refine owes2_cons (fun wx hox => ?_) ?_
    · skip
      skip
      refine withs_plain rfl ?_
      simp only [withs, List.getElem?_cons_zero, List.getElem?_cons_succ, Option.bind, Option.getD]
      repeat (first | (with_reducible refine all_isV ?_) | (with_reducible refine all_isNV ?_; intro Ax kx cx hvx) | (with_reducible refine all_isDV ?_; intro sx Ax kx cx hvx) | (with_reducible refine all_isWV ?_; intro sx Ax kx cx hvx))
      go_simp
      exact ⟨Only.refl _ _, isV.self _ _⟩
    refine owes2_cons (fun wx hox => ?_) ?_
    · skip
      have hk := HK.out.step hox
      obtain ⟨i0, i1, i2, -, -, -⟩ := hk.c3 1 rfl
      refine withs_plain rfl ?_
      simp only [withs, List.getElem?_cons_zero, List.getElem?_cons_succ, Option.bind, Option.getD]
      repeat (first | (with_reducible refine all_isV ?_) | (with_reducible refine all_isNV ?_; intro Ax kx cx hvx) | (with_reducible refine all_isDV ?_; intro sx Ax kx cx hvx) | (with_reducible refine all_isWV ?_; intro sx Ax kx cx hvx))
      go_simp
      exact ⟨Only.refl _ _, isV.self _ _⟩
    refine owes2_cons (fun wx hox => ?_) ?_
    · skip
      have hk := HK.out.step hox
      obtain ⟨i0, i1, i2, -, -, -⟩ := hk.c3 1 rfl
      refine withs_plain rfl ?_
      simp only [withs, List.getElem?_cons_zero, List.getElem?_cons_succ, Option.bind, Option.getD]
      repeat (first | (with_reducible refine all_isV ?_) | (with_reducible refine all_isNV ?_; intro Ax kx cx hvx) | (with_reducible refine all_isDV ?_; intro sx Ax kx cx hvx) | (with_reducible refine all_isWV ?_; intro sx Ax kx cx hvx))
      go_simp
      (exact ⟨Only.refl _ _, isdv_of (by assumption)⟩)
    exact owes2_nil
  case he =>
    simp only [List.drop_succ_cons, List.drop_zero]
    intro wx hox
    refine withs_of (by simp only [List.length, List.range, List.range.loop]; exact rfl) ?_
    simp only [withs, List.getElem?_cons_zero, List.getElem?_cons_succ, Option.bind, Option.getD]
    with_reducible refine all_isV ?_
    with_reducible refine all_isV ?_
    with_reducible refine all_isV ?_
    with_reducible refine all_isV ?_
    with_reducible refine all_isNV ?_
    intro A4 k4 c4 hv4
    with_reducible refine all_isWV ?_
    intro s5 A5 k5 c5 hv5
    with_reducible refine all_isV ?_
    with_reducible refine all_isV ?_
    with_reducible refine all_isDV ?_
    intro s8 A8 k8 c8 hv8
    go_simp
    have hk := HK.out.step hox
    obtain ⟨q0, q1, q2, f0, f1, f2⟩ := hk.c3 0 rfl
    have HB := Lib.hid (hk.blk 0 rfl)
    have HO := Lib.hid hk.only
    clear hk hox HK
    go_wp2_with fail
    refine bodyPost_ret (v := .agg #[.bool s8, .slice A8 k8 c8, .int .i64 (x.e)]) (by simp [results, Tryd.results9, go_sem, q0, q1, q2]) rfl ?_
    exact rlfin hv8 HB.out (noLimb3 _ _ _ _ _) (by omega) HO.out (only_set3 _ _ _ _ _)
  case hl =>
    repeat (refine List.forall_mem_cons.2 ⟨?_, ?_⟩; first | exact isV.lasts _ | exact isNV.lasts _ | exact isDV.lasts _ | exact isWV.lasts _)
    exact fun _ h => (by cases h)

end Go.Proofs.YtkibkmdgibemkaaDoor
