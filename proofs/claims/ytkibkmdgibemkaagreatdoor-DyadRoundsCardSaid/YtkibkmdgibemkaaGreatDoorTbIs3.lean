/-
  compasslaw3.Is of one and the same number.
-/
import Derived.Test.YtkibkmdgibemkaaGreatDoorTbGRd
import Derived.Test.YtkibkmdgibemkaaGreatDoorTbGRef
import Derived.Test.YtkibkmdgibemkaaGreatDoorTbDyN
namespace Go.Proofs.YtkibkmdgibemkaaGreatDoor
set_option linter.unusedSimpArgs false
open Go.RowKit

/-- Limbs without 0 at the end. -/
def isNC (n : Nat) : VP := fun u w => ∃ A c, u = .slice A (limbsOf n).length c ∧ LRead w A (limbsOf n)
theorem isNC.lasts (n : Nat) : Lasts (isNC n) := fun _ _ _ ⟨A, c, h1, h2⟩ ho => ⟨A, c, h1, h2.only ho⟩
theorem all_isNC {n : Nat} {w : World} {K : Value → Prop} (h : ∀ A c, Hid (LRead w A (limbsOf n)) → K (.slice A (limbsOf n).length c)) : ∀ v, isNC n v w → K v := fun v ⟨A, c, h1, h2⟩ => by
  subst h1
  exact h A c h2
theorem grow_nc {w : World} {A : Option Addr} {k c n : Nat} (h : RV w (.slice A k c) n) (hf : Hid (Few n)) : Calls Tryz.prog 88 #[.slice A k c] w fun e w'' => ∃ u, e = .returned u ∧ Only [] w w'' ∧ isNC n u w'' := by
  obtain ⟨A', c', e, h2, h3⟩ := h
  injection e with e1 e2 e3
  subst e1 e2 e3
  refine (limbs_any A _ c (R.limbsOf n) w (Lib.hid h2) (Lib.hid (R.limb_limbsOf n)) (Lib.hid rfl) (by have := hf.out.digits; omega)).mono ?_
  rintro e w1 ⟨B, m, d, rfl, hat, -, ho⟩
  rw [R.join_digits] at hat
  obtain ⟨C, d', e, g1, g2, g3⟩ := LimbsAt.shape hat
  injection e with e1 e2 e3
  subst e1 e2 e3
  exact ⟨_, rfl, ho, _, _, rfl, g1⟩
theorem samelimbs_nc {w : World} {A B : Option Addr} {c d k n : Nat} (hA : Hid (LRead w A (limbsOf n))) (hB : Hid (LRead w B (limbsOf n))) (hk : k = (limbsOf n).length ∧ (k : Int) ≤ 16000000) : Calls Tryz.prog 87 #[.slice A k c, .slice B (limbsOf n).length d] w fun e w' => e = .returned (.bool true) ∧ Only [] w w' :=
  (samelimbs_any A B c d k _ (limbsOf n) (limbsOf n) w hA hB (Lib.hid hk.1) (Lib.hid rfl) hk.2).mono fun _ _ ⟨h1, h2⟩ => ⟨by rw [h1, decide_eq_true rfl], h2⟩
set_option maxHeartbeats 8000000 in
set_option maxRecDepth 100000 in
theorem is3_core {w : World} {s : Bool} {A B : Option Addr} {k c m d : Nat} {x : Dy} (p : Int) (HP : Hid (x.z.sign = p)) (hp0 : (p == 0) = false) (HC : Hid (Cr s m x.z)) (HKL : Hid (k = (limbsOf x.z.natAbs).length ∧ (k : Int) ≤ 16000000)) (hl : LRead w A (limbsOf x.z.natAbs)) (hv : RV w (.slice B m d) x.z.natAbs) (HF : Hid (Few x.z.natAbs)) :
    Calls Tryz.prog 34 #[.agg #[.bool s, .slice A k c, .int .i64 x.e], .agg #[.bool s, .slice B m d, .int .i64 x.e]] w fun e w' => e = .returned (.bool true) ∧ Only [] w w' := by
  have hk := ((KB.start w).new 59 [.bool s, .slice A k c, .int .i64 x.e]).new 62 [.bool s, .slice B m d, .int .i64 x.e]
  simp only [World.size_alloc] at hk
  have HL := Lib.hid (hl.only hk.only)
  have HV := Lib.hid (hv.only hk.only)
  have HK := Lib.hid hk
  clear hk hl hv
  obtain ⟨j0, j1, j2, -, -, -⟩ := HK.out.c3 0 rfl
  go_enter Tryz.func34, Tryz.ntmps34
  go_wp2_with fail
  (with_reducible refine (rsign_d p (RD.of HV HC) HP.out).mono ?_)
  rintro e w2 ⟨rfl, ho⟩
  replace HK := Lib.hid (HK.out.step ho)
  replace HL := Lib.hid (HL.out.only ho)
  replace HV := Lib.hid (HV.out.only ho)
  clear ho j0 j1 j2
  go_upto_region 3 with fail
  apply wp_region_typed2 (by kernel_rfl) [isV _, isV _, isV _, isV _, isV _, isV _, isV _, isV _, isV _, isV _, isV _, isV _, isV _, isV _, isV _, isV _, isV _, isV _, isV _, isNC x.z.natAbs, isV _, isV _, isV _] [[], [0], [1], [], [3], [2, 4], [5], [6], [6, 7], [6], [6, 9], [6, 8, 10], [6, 11], [12], [13], [13, 14], [13, 15], [13], [13, 17], [13, 18], [13, 16, 19], [13, 20], [21]] (by kernel_rfl) (by kernel_rfl)
  case ho =>
    refine owes2_cons (fun wx hox => ?_) ?_
    · skip
      skip
      refine withs_plain rfl ?_
      simp only [withs, List.getElem?_cons_zero, List.getElem?_cons_succ, Option.bind, Option.getD]
      repeat (first | (with_reducible refine all_isV ?_) | (with_reducible refine all_isNC ?_; intro Ax cx hvx))
      go_simp
      exact ⟨Only.refl _ _, isV.self _ _⟩
    refine owes2_cons (fun wx hox => ?_) ?_
    · skip
      skip
      refine withs_plain rfl ?_
      simp only [withs, List.getElem?_cons_zero, List.getElem?_cons_succ, Option.bind, Option.getD]
      repeat (first | (with_reducible refine all_isV ?_) | (with_reducible refine all_isNC ?_; intro Ax cx hvx))
      go_simp
      exact ⟨Only.refl _ _, isV.self _ _⟩
    refine owes2_cons (fun wx hox => ?_) ?_
    · skip
      have hk := HK.out.step hox
      obtain ⟨i0, i1, i2, -, -, -⟩ := hk.c3 1 rfl
      clear hk
      refine withs_plain rfl ?_
      simp only [withs, List.getElem?_cons_zero, List.getElem?_cons_succ, Option.bind, Option.getD]
      repeat (first | (with_reducible refine all_isV ?_) | (with_reducible refine all_isNC ?_; intro Ax cx hvx))
      go_simp
      exact ⟨Only.refl _ _, isV.self _ _⟩
    refine owes2_cons (fun wx hox => ?_) ?_
    · skip
      skip
      refine withs_plain rfl ?_
      simp only [withs, List.getElem?_cons_zero, List.getElem?_cons_succ, Option.bind, Option.getD]
      repeat (first | (with_reducible refine all_isV ?_) | (with_reducible refine all_isNC ?_; intro Ax cx hvx))
      go_simp
      exact ⟨Only.refl _ _, isV.self _ _⟩
    refine owes2_cons (fun wx hox => ?_) ?_
    · skip
      have hk := HK.out.step hox
      obtain ⟨j0, j1, j2, -, -, -⟩ := hk.c3 0 rfl
      clear hk
      refine withs_plain rfl ?_
      simp only [withs, List.getElem?_cons_zero, List.getElem?_cons_succ, Option.bind, Option.getD]
      repeat (first | (with_reducible refine all_isV ?_) | (with_reducible refine all_isNC ?_; intro Ax cx hvx))
      go_simp
      exact ⟨Only.refl _ _, isV.self _ _⟩
    refine owes2_cons (fun wx hox => ?_) ?_
    · skip
      skip
      refine withs_plain rfl ?_
      simp only [withs, List.getElem?_cons_zero, List.getElem?_cons_succ, Option.bind, Option.getD]
      repeat (first | (with_reducible refine all_isV ?_) | (with_reducible refine all_isNC ?_; intro Ax cx hvx))
      go_simp
      exact ⟨Only.refl _ _, isV.self _ _⟩
    refine owes2_cons (fun wx hox => ?_) ?_
    · skip
      skip
      refine withs_plain rfl ?_
      simp only [withs, List.getElem?_cons_zero, List.getElem?_cons_succ, Option.bind, Option.getD]
      repeat (first | (with_reducible refine all_isV ?_) | (with_reducible refine all_isNC ?_; intro Ax cx hvx))
      go_simp
      exact ⟨Only.refl _ _, isV.self _ _⟩
    refine owes2_cons (fun wx hox => ?_) ?_
    · skip
      skip
      refine withs_guard rfl rfl ?_
      simp only [withs, List.getElem?_cons_zero, List.getElem?_cons_succ, Option.bind, Option.getD]
      repeat (first | (with_reducible refine all_isV ?_) | (with_reducible refine all_isNC ?_; intro Ax cx hvx))
      refine ⟨by kernel_rfl, ?_⟩
      go_simp
      exact ⟨Only.refl _ _, isV.self _ _⟩
    refine owes2_cons (fun wx hox => ?_) ?_
    · skip
      have hk := HK.out.step hox
      obtain ⟨i0, i1, i2, -, -, -⟩ := hk.c3 1 rfl
      clear hk
      refine withs_guard rfl rfl ?_
      simp only [withs, List.getElem?_cons_zero, List.getElem?_cons_succ, Option.bind, Option.getD]
      repeat (first | (with_reducible refine all_isV ?_) | (with_reducible refine all_isNC ?_; intro Ax cx hvx))
      refine ⟨by kernel_rfl, ?_⟩
      go_simp
      exact ⟨Only.refl _ _, isV.self _ _⟩
    refine owes2_cons (fun wx hox => ?_) ?_
    · skip
      skip
      refine withs_guard rfl rfl ?_
      simp only [withs, List.getElem?_cons_zero, List.getElem?_cons_succ, Option.bind, Option.getD]
      repeat (first | (with_reducible refine all_isV ?_) | (with_reducible refine all_isNC ?_; intro Ax cx hvx))
      refine ⟨by kernel_rfl, ?_⟩
      go_simp
      exact ⟨Only.refl _ _, isV.self _ _⟩
    refine owes2_cons (fun wx hox => ?_) ?_
    · skip
      have hk := HK.out.step hox
      obtain ⟨j0, j1, j2, -, -, -⟩ := hk.c3 0 rfl
      clear hk
      refine withs_guard rfl rfl ?_
      simp only [withs, List.getElem?_cons_zero, List.getElem?_cons_succ, Option.bind, Option.getD]
      repeat (first | (with_reducible refine all_isV ?_) | (with_reducible refine all_isNC ?_; intro Ax cx hvx))
      refine ⟨by kernel_rfl, ?_⟩
      go_simp
      exact ⟨Only.refl _ _, isV.self _ _⟩
    refine owes2_cons (fun wx hox => ?_) ?_
    · skip
      skip
      refine withs_guard rfl rfl ?_
      simp only [withs, List.getElem?_cons_zero, List.getElem?_cons_succ, Option.bind, Option.getD]
      repeat (first | (with_reducible refine all_isV ?_) | (with_reducible refine all_isNC ?_; intro Ax cx hvx))
      refine ⟨by kernel_rfl, ?_⟩
      go_simp
      exact ⟨Only.refl _ _, isV.self _ _⟩
    refine owes2_cons (fun wx hox => ?_) ?_
    · skip
      skip
      refine withs_plain rfl ?_
      simp only [withs, List.getElem?_cons_zero, List.getElem?_cons_succ, Option.bind, Option.getD]
      repeat (first | (with_reducible refine all_isV ?_) | (with_reducible refine all_isNC ?_; intro Ax cx hvx))
      go_simp
      exact ⟨Only.refl _ _, isV.self _ _⟩
    refine owes2_cons (fun wx hox => ?_) ?_
    · skip
      skip
      refine withs_plain rfl ?_
      simp only [withs, List.getElem?_cons_zero, List.getElem?_cons_succ, Option.bind, Option.getD]
      repeat (first | (with_reducible refine all_isV ?_) | (with_reducible refine all_isNC ?_; intro Ax cx hvx))
      go_simp
      exact ⟨Only.refl _ _, isV.self _ _⟩
    refine owes2_cons (fun wx hox => ?_) ?_
    · skip
      skip
      refine withs_guard rfl rfl ?_
      simp only [withs, List.getElem?_cons_zero, List.getElem?_cons_succ, Option.bind, Option.getD]
      repeat (first | (with_reducible refine all_isV ?_) | (with_reducible refine all_isNC ?_; intro Ax cx hvx))
      refine ⟨by kernel_rfl, ?_⟩
      go_simp
      exact ⟨Only.refl _ _, isV.self _ _⟩
    refine owes2_cons (fun wx hox => ?_) ?_
    · skip
      skip
      refine withs_guard rfl rfl ?_
      simp only [withs, List.getElem?_cons_zero, List.getElem?_cons_succ, Option.bind, Option.getD]
      repeat (first | (with_reducible refine all_isV ?_) | (with_reducible refine all_isNC ?_; intro Ax cx hvx))
      refine ⟨by kernel_rfl, ?_⟩
      go_simp
      exact ⟨Only.refl _ _, isV.self _ _⟩
    refine owes2_cons (fun wx hox => ?_) ?_
    · skip
      have hk := HK.out.step hox
      obtain ⟨i0, i1, i2, -, -, -⟩ := hk.c3 1 rfl
      clear hk
      refine withs_guard rfl rfl ?_
      simp only [withs, List.getElem?_cons_zero, List.getElem?_cons_succ, Option.bind, Option.getD]
      repeat (first | (with_reducible refine all_isV ?_) | (with_reducible refine all_isNC ?_; intro Ax cx hvx))
      refine ⟨by kernel_rfl, ?_⟩
      go_simp
      exact ⟨Only.refl _ _, isV.self _ _⟩
    refine owes2_cons (fun wx hox => ?_) ?_
    · skip
      skip
      refine withs_guard rfl rfl ?_
      simp only [withs, List.getElem?_cons_zero, List.getElem?_cons_succ, Option.bind, Option.getD]
      repeat (first | (with_reducible refine all_isV ?_) | (with_reducible refine all_isNC ?_; intro Ax cx hvx))
      refine ⟨by kernel_rfl, ?_⟩
      go_simp
      exact ⟨Only.refl _ _, isV.self _ _⟩
    refine owes2_cons (fun wx hox => ?_) ?_
    · skip
      have hk := HK.out.step hox
      obtain ⟨j0, j1, j2, -, -, -⟩ := hk.c3 0 rfl
      clear hk
      refine withs_guard rfl rfl ?_
      simp only [withs, List.getElem?_cons_zero, List.getElem?_cons_succ, Option.bind, Option.getD]
      repeat (first | (with_reducible refine all_isV ?_) | (with_reducible refine all_isNC ?_; intro Ax cx hvx))
      refine ⟨by kernel_rfl, ?_⟩
      go_simp
      exact ⟨Only.refl _ _, isV.self _ _⟩
    refine owes2_cons (fun wx hox => ?_) ?_
    · skip
      skip
      refine withs_guard rfl rfl ?_
      simp only [withs, List.getElem?_cons_zero, List.getElem?_cons_succ, Option.bind, Option.getD]
      repeat (first | (with_reducible refine all_isV ?_) | (with_reducible refine all_isNC ?_; intro Ax cx hvx))
      refine ⟨by kernel_rfl, ?_⟩
      go_simp
      (with_reducible exact grow_nc (HV.out.only hox) HF)
    refine owes2_cons (fun wx hox => ?_) ?_
    · skip
      skip
      refine withs_guard rfl rfl ?_
      simp only [withs, List.getElem?_cons_zero, List.getElem?_cons_succ, Option.bind, Option.getD]
      repeat (first | (with_reducible refine all_isV ?_) | (with_reducible refine all_isNC ?_; intro Ax cx hvx))
      refine ⟨by kernel_rfl, ?_⟩
      go_simp
      (with_reducible exact grow_of (samelimbs_nc (Lib.hid (HL.out.only hox)) hvx HKL.out))
    refine owes2_cons (fun wx hox => ?_) ?_
    · skip
      skip
      refine withs_plain rfl ?_
      simp only [withs, List.getElem?_cons_zero, List.getElem?_cons_succ, Option.bind, Option.getD]
      repeat (first | (with_reducible refine all_isV ?_) | (with_reducible refine all_isNC ?_; intro Ax cx hvx))
      go_simp
      exact ⟨Only.refl _ _, isV.self _ _⟩
    refine owes2_cons (fun wx hox => ?_) ?_
    · skip
      skip
      refine withs_plain rfl ?_
      simp only [withs, List.getElem?_cons_zero, List.getElem?_cons_succ, Option.bind, Option.getD]
      repeat (first | (with_reducible refine all_isV ?_) | (with_reducible refine all_isNC ?_; intro Ax cx hvx))
      go_simp
      exact ⟨Only.refl _ _, isV.self _ _⟩
    exact owes2_nil
  case he =>
    intro wx hox
    refine withs_of (by simp only [List.length, List.range, List.range.loop]; exact rfl) ?_
    simp only [withs, List.getElem?_cons_zero, List.getElem?_cons_succ, Option.bind, Option.getD]
    repeat (first | (with_reducible refine all_isV ?_) | (with_reducible refine all_isNC ?_; intro Ax cx hvx))
    go_simp
    replace HK := Lib.hid (HK.out.step hox)
    clear hox
    go_wp2_with fail
    go_ret
    exact ⟨rfl, HK.out.only⟩
  case hl =>
    repeat (refine List.forall_mem_cons.2 ⟨?_, ?_⟩; first | exact isV.lasts _ | exact isNC.lasts _)
    exact fun _ h => (by cases h)
set_option maxHeartbeats 8000000 in
set_option maxRecDepth 100000 in
theorem is3_zero {w : World} {c d : Nat} {A B : Option Addr} (hv : RV w (.slice B 0 d) 0) :
    Calls Tryz.prog 34 #[.agg #[.bool false, .slice A 0 c, .int .i64 0], .agg #[.bool false, .slice B 0 d, .int .i64 0]] w fun e w' => e = .returned (.bool true) ∧ Only [] w w' := by
  have hk := ((KB.start w).new 59 [.bool false, .slice A 0 c, .int .i64 0]).new 62 [.bool false, .slice B 0 d, .int .i64 0]
  simp only [World.size_alloc] at hk
  have HR : Hid (RD _ (.agg #[.bool false, .slice B 0 d, .int .i64 0]) ⟨0, 0⟩) := ⟨false, B, 0, d, rfl, ⟨by decide, by show 0 = (R.limbsOf 0).length; rw [R.limbsOf_zero]; rfl⟩, hv.only hk.only⟩
  have HK := Lib.hid hk
  clear hk hv
  obtain ⟨j0, j1, j2, -, -, -⟩ := HK.out.c3 0 rfl
  go_enter Tryz.func34, Tryz.ntmps34
  go_wp2_with fail
  (with_reducible refine (rsign_d 0 HR rfl).mono ?_)
  rintro e w2 ⟨rfl, ho⟩
  replace HK := Lib.hid (HK.out.step ho)
  clear ho j0 j1 j2 HR
  obtain ⟨i0, i1, i2, -, -, -⟩ := HK.out.c3 1 rfl
  go_wp2_with fail
  go_ret
  exact ⟨rfl, HK.out.only⟩
/-- A dyad in its canonical form, and the reference's of the same number. -/
theorem is3_d {w : World} {a b : Value} {x : Dy} {N : Nat} (ha : Hid (isD x a w)) (hb : Hid (RD w b x)) (hc : Hid (Can x)) (bx : Hid (Bnd N x)) (hN : N ≤ 1000000) : Calls Tryz.prog 34 #[a, b] w fun e w' => e = .returned (.bool true) ∧ Only [] w w' := by
  obtain ⟨s, A, k, c, rfl, hs, hk, hv⟩ := ha.out
  obtain ⟨t, B, m, d, rfl, hd, hu⟩ := hb.out
  have hst : t = s := by rw [hs, hd.1]
  subst hst
  obtain ⟨A', c', xs, e, h2, h3, h4, h5⟩ := hv.mag
  injection e with e1 e2 e3
  subst e1 e3
  have hx : xs = limbsOf x.z.natAbs := by
    have h6 := (limbsOf_take h2.limb).1
    rw [h5, ← hk, e2, List.take_of_length_le (Nat.le_refl _)] at h6
    exact h6
  subst hx
  by_cases hz : x.z = 0
  · have hx0 : x = ⟨0, 0⟩ := by
      obtain ⟨z, e⟩ := x
      simp only at hz
      subst hz
      rcases hc.out with h | h
      · obtain ⟨_, h2⟩ := h
        simp only at h2
        rw [h2]
      · exfalso
        simp at h
    subst hx0
    have hk0 : k = 0 := by rw [hk]; show (limbsOf 0).length = 0; rw [limbsOf_zero]; rfl
    have hm0 : m = 0 := by rw [hd.2]; show (R.limbsOf 0).length = 0; rw [R.limbsOf_zero]; rfl
    subst hk0 hm0
    have ht : t = false := by rw [hs]; rfl
    subst ht
    exact is3_zero hu
  · obtain ⟨p1, p2_, p3⟩ : x.z.sign = x.z.sign ∧ x.z.sign ≠ 0 ∧ True := ⟨rfl, fun h => hz (Int.sign_eq_zero_iff_zero.1 h), trivial⟩
    exact is3_core x.z.sign (Lib.hid rfl) (by rw [beq_eq_false_iff_ne]; exact p2_) (Lib.hid hd) (Lib.hid ⟨hk, by rw [e2]; omega⟩) h2.read hu (Lib.hid (rd_few bx.out (by omega)))

end Go.Proofs.YtkibkmdgibemkaaGreatDoor
