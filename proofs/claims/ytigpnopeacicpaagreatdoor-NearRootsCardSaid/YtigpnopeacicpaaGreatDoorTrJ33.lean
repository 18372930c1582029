/-
  Joined texts.
-/
import Derived.Test.YtigpnopeacicpaaGreatDoorTrGRd
import Derived.Test.YtigpnopeacicpaaGreatDoorTrGRef
import Derived.Test.YtigpnopeacicpaaGreatDoorTrJ17
import Derived.Test.YtigpnopeacicpaaGreatDoorTrRDiv
import Derived.ArgAppend
import Derived.StillTailTactics
import Derived.Deep.CutBlock
import Derived.Test.YtigpnopeacicpaaGreatDoorTrJ27
import Derived.Test.YtigpnopeacicpaaGreatDoorTrGDyP
import Derived.Test.YtigpnopeacicpaaGreatDoorTrJ25
import Derived.Test.YtigpnopeacicpaaGreatDoorTrJ19
/-
  compasslaw3.Is of one and the same number.
-/
namespace Go.Proofs.YtigpnopeacicpaaGreatDoor
set_option linter.unusedSimpArgs false
open Go.RowKit

def isNC (n : Nat) : VP := fun u w => ∃ A c, u = .slice A (limbsOf n).length c ∧ LRead w A (limbsOf n)
theorem isNC.lasts (n : Nat) : Lasts (isNC n) := fun _ _ _ ⟨A, c, h1, h2⟩ ho => ⟨A, c, h1, h2.only ho⟩
theorem all_isNC {n : Nat} {w : World} {K : Value → Prop} (h : ∀ A c, Hid (LRead w A (limbsOf n)) → K (.slice A (limbsOf n).length c)) : ∀ v, isNC n v w → K v := fun v ⟨A, c, h1, h2⟩ => by
  subst h1
  exact h A c h2
theorem grow_nc {w : World} {A : Option Addr} {k c n : Nat} (h : RV w (.slice A k c) n) (hf : Hid (Few n)) : Calls Tryz.prog 100 #[.slice A k c] w fun e w'' => ∃ u, e = .returned u ∧ Only [] w w'' ∧ isNC n u w'' := by
  obtain ⟨A', c', e, h2, h3⟩ := h
  injection e with e1 e2 e3
  subst e1 e2 e3
  refine (limbs_any A _ c (R.limbsOf n) w (Lib.hid h2) (Lib.hid (R.limb_limbsOf n)) (Lib.hid rfl) (by have := hf.out.digits; omega)).mono ?_
  rintro e w1 ⟨B, m, d, rfl, hat, -, ho⟩
  rw [R.join_digits] at hat
  obtain ⟨C, d', e, g1, g2, g3⟩ := LimbsAt.shape hat
  injection e with e1 e2 e3
  subst e1 e2 e3
  exact ⟨_, rfl, ho, _, _, rfl, g1⟩
theorem samelimbs_nc {w : World} {A B : Option Addr} {c d k n : Nat} (hA : Hid (LRead w A (limbsOf n))) (hB : Hid (LRead w B (limbsOf n))) (hk : k = (limbsOf n).length ∧ (k : Int) ≤ 16000000) : Calls Tryz.prog 99 #[.slice A k c, .slice B (limbsOf n).length d] w fun e w' => e = .returned (.bool true) ∧ Only [] w w' :=
  (samelimbs_any A B c d k _ (limbsOf n) (limbsOf n) w hA hB (Lib.hid hk.1) (Lib.hid rfl) hk.2).mono fun _ _ ⟨h1, h2⟩ => ⟨by rw [h1, decide_eq_true rfl], h2⟩
set_option maxHeartbeats 8000000 in
set_option maxRecDepth 100000 in
theorem is3_core {w : World} {s : Bool} {A B : Option Addr} {k c m d : Nat} {x : Dy} (p : Int) (HP : Hid (x.z.sign = p)) (hp0 : (p == 0) = false) (HC : Hid (Cr s m x.z)) (HKL : Hid (k = (limbsOf x.z.natAbs).length ∧ (k : Int) ≤ 16000000)) (hl : LRead w A (limbsOf x.z.natAbs)) (hv : RV w (.slice B m d) x.z.natAbs) (HF : Hid (Few x.z.natAbs)) :
    Calls Tryz.prog 56 #[.agg #[.bool s, .slice A k c, .int .i64 x.e], .agg #[.bool s, .slice B m d, .int .i64 x.e]] w fun e w' => e = .returned (.bool true) ∧ Only [] w w' := by
  have hk := ((KB.start w).new 32 [.bool s, .slice A k c, .int .i64 x.e]).new 38 [.bool s, .slice B m d, .int .i64 x.e]
  simp only [World.size_alloc] at hk
  have HL := Lib.hid (hl.only hk.only)
  have HV := Lib.hid (hv.only hk.only)
  have HK := Lib.hid hk
  clear hk hl hv
  obtain ⟨j0, j1, j2, -, -, -⟩ := HK.out.c3 0 rfl
  go_enter Tryz.func56, Tryz.ntmps56
  go_wp2_with fail
  (with_reducible refine (rsign_d p (RD.of HV HC) HP.out).mono ?_)
  rintro e w2 ⟨rfl, ho⟩
  replace HK := Lib.hid (HK.out.step ho)
  replace HL := Lib.hid (HL.out.only ho)
  replace HV := Lib.hid (HV.out.only ho)
  clear ho j0 j1 j2
  go_upto_region 3 with fail
  apply wp_region_typed2 (by kernel_rfl) [isV _, isV _, isV _, isV _, isV _, isV _, isV _, isV _, isV _, isV _, isV _, isV _, isV _, isV _, isV _, isV _, isV _, isV _, isV _, isNC x.z.natAbs, isV _, isV _, isV _] [[], [0], [1], [], [3], [2, 4], [5], [6], [6, 7], [6], [6, 9], [6, 8, 10], [6, 11], [12], [13], [13, 14], [13, 15], [13], [13, 17], [13, 18], [13, 16, 19], [13, 20], [21]] (by kernel_rfl) (by kernel_rfl)
  case ho =>
    iterate 2
      refine owes2_cons (fun wx hox => ?_) ?_
      · skip
        refine withs_plain rfl ?_
        simp only [withs, List.getElem?_cons_zero, List.getElem?_cons_succ, Option.bind, Option.getD]
        repeat (first | (with_reducible refine all_isV ?_) | (with_reducible refine all_isNC ?_; intro Ax cx hvx))
        go_simp
        exact ⟨Only.refl _ _, isV.self _ _⟩
    refine owes2_cons (fun wx hox => ?_) ?_
    · skip
      have hk := HK.out.step hox
      obtain ⟨i0, i1, i2, -, -, -⟩ := hk.c3 1 rfl
      clear hk
      refine withs_plain rfl ?_
      simp only [withs, List.getElem?_cons_zero, List.getElem?_cons_succ, Option.bind, Option.getD]
      repeat (first | (with_reducible refine all_isV ?_) | (with_reducible refine all_isNC ?_; intro Ax cx hvx))
      go_simp
      exact ⟨Only.refl _ _, isV.self _ _⟩
    refine owes2_cons (fun wx hox => ?_) ?_
    · skip
      refine withs_plain rfl ?_
      simp only [withs, List.getElem?_cons_zero, List.getElem?_cons_succ, Option.bind, Option.getD]
      repeat (first | (with_reducible refine all_isV ?_) | (with_reducible refine all_isNC ?_; intro Ax cx hvx))
      go_simp
      exact ⟨Only.refl _ _, isV.self _ _⟩
    refine owes2_cons (fun wx hox => ?_) ?_
    · skip
      have hk := HK.out.step hox
      obtain ⟨j0, j1, j2, -, -, -⟩ := hk.c3 0 rfl
      clear hk
      refine withs_plain rfl ?_
      simp only [withs, List.getElem?_cons_zero, List.getElem?_cons_succ, Option.bind, Option.getD]
      repeat (first | (with_reducible refine all_isV ?_) | (with_reducible refine all_isNC ?_; intro Ax cx hvx))
      go_simp
      exact ⟨Only.refl _ _, isV.self _ _⟩
    iterate 2
      refine owes2_cons (fun wx hox => ?_) ?_
      · skip
        refine withs_plain rfl ?_
        simp only [withs, List.getElem?_cons_zero, List.getElem?_cons_succ, Option.bind, Option.getD]
        repeat (first | (with_reducible refine all_isV ?_) | (with_reducible refine all_isNC ?_; intro Ax cx hvx))
        go_simp
        exact ⟨Only.refl _ _, isV.self _ _⟩
    refine owes2_cons (fun wx hox => ?_) ?_
    · skip
      refine withs_guard rfl rfl ?_
      simp only [withs, List.getElem?_cons_zero, List.getElem?_cons_succ, Option.bind, Option.getD]
      repeat (first | (with_reducible refine all_isV ?_) | (with_reducible refine all_isNC ?_; intro Ax cx hvx))
      refine ⟨by kernel_rfl, ?_⟩
      go_simp
      exact ⟨Only.refl _ _, isV.self _ _⟩
    refine owes2_cons (fun wx hox => ?_) ?_
    · skip
      have hk := HK.out.step hox
      obtain ⟨i0, i1, i2, -, -, -⟩ := hk.c3 1 rfl
      clear hk
      refine withs_guard rfl rfl ?_
      simp only [withs, List.getElem?_cons_zero, List.getElem?_cons_succ, Option.bind, Option.getD]
      repeat (first | (with_reducible refine all_isV ?_) | (with_reducible refine all_isNC ?_; intro Ax cx hvx))
      refine ⟨by kernel_rfl, ?_⟩
      go_simp
      exact ⟨Only.refl _ _, isV.self _ _⟩
    refine owes2_cons (fun wx hox => ?_) ?_
    · skip
      refine withs_guard rfl rfl ?_
      simp only [withs, List.getElem?_cons_zero, List.getElem?_cons_succ, Option.bind, Option.getD]
      repeat (first | (with_reducible refine all_isV ?_) | (with_reducible refine all_isNC ?_; intro Ax cx hvx))
      refine ⟨by kernel_rfl, ?_⟩
      go_simp
      exact ⟨Only.refl _ _, isV.self _ _⟩
    refine owes2_cons (fun wx hox => ?_) ?_
    · skip
      have hk := HK.out.step hox
      obtain ⟨j0, j1, j2, -, -, -⟩ := hk.c3 0 rfl
      clear hk
      refine withs_guard rfl rfl ?_
      simp only [withs, List.getElem?_cons_zero, List.getElem?_cons_succ, Option.bind, Option.getD]
      repeat (first | (with_reducible refine all_isV ?_) | (with_reducible refine all_isNC ?_; intro Ax cx hvx))
      refine ⟨by kernel_rfl, ?_⟩
      go_simp
      exact ⟨Only.refl _ _, isV.self _ _⟩
    refine owes2_cons (fun wx hox => ?_) ?_
    · skip
      refine withs_guard rfl rfl ?_
      simp only [withs, List.getElem?_cons_zero, List.getElem?_cons_succ, Option.bind, Option.getD]
      repeat (first | (with_reducible refine all_isV ?_) | (with_reducible refine all_isNC ?_; intro Ax cx hvx))
      refine ⟨by kernel_rfl, ?_⟩
      go_simp
      exact ⟨Only.refl _ _, isV.self _ _⟩
    iterate 2
      refine owes2_cons (fun wx hox => ?_) ?_
      · skip
        refine withs_plain rfl ?_
        simp only [withs, List.getElem?_cons_zero, List.getElem?_cons_succ, Option.bind, Option.getD]
        repeat (first | (with_reducible refine all_isV ?_) | (with_reducible refine all_isNC ?_; intro Ax cx hvx))
        go_simp
        exact ⟨Only.refl _ _, isV.self _ _⟩
    iterate 2
      refine owes2_cons (fun wx hox => ?_) ?_
      · skip
        refine withs_guard rfl rfl ?_
        simp only [withs, List.getElem?_cons_zero, List.getElem?_cons_succ, Option.bind, Option.getD]
        repeat (first | (with_reducible refine all_isV ?_) | (with_reducible refine all_isNC ?_; intro Ax cx hvx))
        refine ⟨by kernel_rfl, ?_⟩
        go_simp
        exact ⟨Only.refl _ _, isV.self _ _⟩
    refine owes2_cons (fun wx hox => ?_) ?_
    · skip
      have hk := HK.out.step hox
      obtain ⟨i0, i1, i2, -, -, -⟩ := hk.c3 1 rfl
      clear hk
      refine withs_guard rfl rfl ?_
      simp only [withs, List.getElem?_cons_zero, List.getElem?_cons_succ, Option.bind, Option.getD]
      repeat (first | (with_reducible refine all_isV ?_) | (with_reducible refine all_isNC ?_; intro Ax cx hvx))
      refine ⟨by kernel_rfl, ?_⟩
      go_simp
      exact ⟨Only.refl _ _, isV.self _ _⟩
    refine owes2_cons (fun wx hox => ?_) ?_
    · skip
      refine withs_guard rfl rfl ?_
      simp only [withs, List.getElem?_cons_zero, List.getElem?_cons_succ, Option.bind, Option.getD]
      repeat (first | (with_reducible refine all_isV ?_) | (with_reducible refine all_isNC ?_; intro Ax cx hvx))
      refine ⟨by kernel_rfl, ?_⟩
      go_simp
      exact ⟨Only.refl _ _, isV.self _ _⟩
    refine owes2_cons (fun wx hox => ?_) ?_
    · skip
      have hk := HK.out.step hox
      obtain ⟨j0, j1, j2, -, -, -⟩ := hk.c3 0 rfl
      clear hk
      refine withs_guard rfl rfl ?_
      simp only [withs, List.getElem?_cons_zero, List.getElem?_cons_succ, Option.bind, Option.getD]
      repeat (first | (with_reducible refine all_isV ?_) | (with_reducible refine all_isNC ?_; intro Ax cx hvx))
      refine ⟨by kernel_rfl, ?_⟩
      go_simp
      exact ⟨Only.refl _ _, isV.self _ _⟩
    refine owes2_cons (fun wx hox => ?_) ?_
    · skip
      refine withs_guard rfl rfl ?_
      simp only [withs, List.getElem?_cons_zero, List.getElem?_cons_succ, Option.bind, Option.getD]
      repeat (first | (with_reducible refine all_isV ?_) | (with_reducible refine all_isNC ?_; intro Ax cx hvx))
      refine ⟨by kernel_rfl, ?_⟩
      go_simp
      (with_reducible exact grow_nc (HV.out.only hox) HF)
    refine owes2_cons (fun wx hox => ?_) ?_
    · skip
      refine withs_guard rfl rfl ?_
      simp only [withs, List.getElem?_cons_zero, List.getElem?_cons_succ, Option.bind, Option.getD]
      repeat (first | (with_reducible refine all_isV ?_) | (with_reducible refine all_isNC ?_; intro Ax cx hvx))
      refine ⟨by kernel_rfl, ?_⟩
      go_simp
      (with_reducible exact grow_of (samelimbs_nc (Lib.hid (HL.out.only hox)) hvx HKL.out))
    iterate 2
      refine owes2_cons (fun wx hox => ?_) ?_
      · skip
        refine withs_plain rfl ?_
        simp only [withs, List.getElem?_cons_zero, List.getElem?_cons_succ, Option.bind, Option.getD]
        repeat (first | (with_reducible refine all_isV ?_) | (with_reducible refine all_isNC ?_; intro Ax cx hvx))
        go_simp
        exact ⟨Only.refl _ _, isV.self _ _⟩
    exact owes2_nil
  case he =>
    intro wx hox
    refine withs_of (by simp only [List.length, List.range, List.range.loop]; exact rfl) ?_
    simp only [withs, List.getElem?_cons_zero, List.getElem?_cons_succ, Option.bind, Option.getD]
    repeat (first | (with_reducible refine all_isV ?_) | (with_reducible refine all_isNC ?_; intro Ax cx hvx))
    go_simp
    replace HK := Lib.hid (HK.out.step hox)
    clear hox
    go_wp2_with fail
    go_ret
    exact ⟨rfl, HK.out.only⟩
  case hl =>
    repeat (refine List.forall_mem_cons.2 ⟨?_, ?_⟩; first | exact isV.lasts _ | exact isNC.lasts _)
    exact fun _ h => (by cases h)
set_option maxHeartbeats 8000000 in
set_option maxRecDepth 100000 in
theorem is3_zero {w : World} {c d : Nat} {A B : Option Addr} (hv : RV w (.slice B 0 d) 0) :
    Calls Tryz.prog 56 #[.agg #[.bool false, .slice A 0 c, .int .i64 0], .agg #[.bool false, .slice B 0 d, .int .i64 0]] w fun e w' => e = .returned (.bool true) ∧ Only [] w w' := by
  have hk := ((KB.start w).new 32 [.bool false, .slice A 0 c, .int .i64 0]).new 38 [.bool false, .slice B 0 d, .int .i64 0]
  simp only [World.size_alloc] at hk
  have HR : Hid (RD _ (.agg #[.bool false, .slice B 0 d, .int .i64 0]) ⟨0, 0⟩) := ⟨false, B, 0, d, rfl, ⟨by decide, by show 0 = (R.limbsOf 0).length; rw [R.limbsOf_zero]; rfl⟩, hv.only hk.only⟩
  have HK := Lib.hid hk
  clear hk hv
  obtain ⟨j0, j1, j2, -, -, -⟩ := HK.out.c3 0 rfl
  go_enter Tryz.func56, Tryz.ntmps56
  go_wp2_with fail
  (with_reducible refine (rsign_d 0 HR rfl).mono ?_)
  rintro e w2 ⟨rfl, ho⟩
  replace HK := Lib.hid (HK.out.step ho)
  clear ho j0 j1 j2 HR
  obtain ⟨i0, i1, i2, -, -, -⟩ := HK.out.c3 1 rfl
  go_wp2_with fail
  go_ret
  exact ⟨rfl, HK.out.only⟩
theorem is3_d {w : World} {a b : Value} {x : Dy} {N : Nat} (ha : Hid (isD x a w)) (hb : Hid (RD w b x)) (hc : Hid (Can x)) (bx : Hid (Bnd N x)) (hN : N ≤ 1000000) : Calls Tryz.prog 56 #[a, b] w fun e w' => e = .returned (.bool true) ∧ Only [] w w' := by
  obtain ⟨s, A, k, c, rfl, hs, hk, hv⟩ := ha.out
  obtain ⟨t, B, m, d, rfl, hd, hu⟩ := hb.out
  have hst : t = s := by rw [hs, hd.1]
  subst hst
  obtain ⟨A', c', xs, e, h2, h3, h4, h5⟩ := hv.mag
  injection e with e1 e2 e3
  subst e1 e3
  have hx : xs = limbsOf x.z.natAbs := by
    have h6 := (limbsOf_take h2.limb).1
    rw [h5, ← hk, e2, List.take_of_length_le (Nat.le_refl _)] at h6
    exact h6
  subst hx
  by_cases hz : x.z = 0
  · have hx0 : x = ⟨0, 0⟩ := by
      obtain ⟨z, e⟩ := x
      simp only at hz
      subst hz
      rcases hc.out with h | h
      · obtain ⟨_, h2⟩ := h
        simp only at h2
        rw [h2]
      · exfalso
        simp at h
    subst hx0
    have hk0 : k = 0 := by rw [hk]; show (limbsOf 0).length = 0; rw [limbsOf_zero]; rfl
    have hm0 : m = 0 := by rw [hd.2]; show (R.limbsOf 0).length = 0; rw [R.limbsOf_zero]; rfl
    subst hk0 hm0
    have ht : t = false := by rw [hs]; rfl
    subst ht
    exact is3_zero hu
  · obtain ⟨p1, p2_, p3⟩ : x.z.sign = x.z.sign ∧ x.z.sign ≠ 0 ∧ True := ⟨rfl, fun h => hz (Int.sign_eq_zero_iff_zero.1 h), trivial⟩
    exact is3_core x.z.sign (Lib.hid rfl) (by rw [beq_eq_false_iff_ne]; exact p2_) (Lib.hid hd) (Lib.hid ⟨hk, by rw [e2]; omega⟩) h2.read hu (Lib.hid (rd_few bx.out (by omega)))

end Go.Proofs.YtigpnopeacicpaaGreatDoor

/-
  The reference's numbers: DivMod, below and by one digit.
-/
namespace Go.Proofs.YtigpnopeacicpaaGreatDoor
open Go.RowKit

structure ZCar (wm wr : World) (g y : Nat) (xs zs : List Nat) (k rest : Nat) : Prop where
  blk : Blk wr g 133 (limbV zs)
  limb : R.Limb zs
  len : zs.length = xs.length
  val_ : R.val (xs.drop k) = y * R.val (zs.drop k) + rest
  lt : rest < y
  only : Only [g] wm wr
theorem ZCar.step {wm wr wd : World} {g y : Nat} {xs zs : List Nat} {j rest : Nat} (h : ZCar wm wr g y xs zs (j + 1) rest) (hj : j < xs.length) (hx : R.Limb xs) (q r : Nat) (hq : (rest * R.BB + xs[j]?.getD 0) / y = q) (hr : (rest * R.BB + xs[j]?.getD 0) % y = r)
    (hb : Blk wd g 133 ((limbV zs).set j (.int .u64 (q : Int)))) (ho : Only [g] wr wd) : ZCar wm wd g y xs (zs.set j q) j r := by
  subst hq hr
  have hy : 0 < y := by have := h.lt; omega
  have hq : (rest * R.BB + xs[j]?.getD 0) / y < R.BB := by
    rw [Nat.div_lt_iff_lt_mul hy]
    have h1 := Nat.mul_le_mul_right R.BB (show rest + 1 ≤ y from h.lt)
    rw [Nat.succ_mul, Nat.mul_comm y] at h1
    have := hx.get j
    omega
  have hlen := h.len
  refine ⟨?_, h.limb.set _ _ hq, by rw [List.length_set, hlen], ?_, Nat.mod_lt _ hy, h.only.trans ho (by simp)⟩
  · rw [← limbV_set]
    exact hb
  · have h1 := Nat.div_add_mod (rest * R.BB + xs[j]?.getD 0) y
    rw [R.val_drop_cons xs j hj, R.val_drop_cons _ j (by rw [List.length_set]; omega), set_get_eq (by omega), List.drop_set_of_lt (by omega), h.val_]
    rw [Nat.mul_add, Nat.mul_add, Nat.mul_left_comm R.BB y, Nat.mul_comm R.BB rest]
    omega
end Go.Proofs.YtigpnopeacicpaaGreatDoor

/-
  The reference's long division: what its inner loops keep (plain law).
-/
namespace Go.Proofs.YtigpnopeacicpaaGreatDoor
namespace R

structure GS (u2 u1 u0 v1 v0 d r : Nat) : Prop where
  eq : d * v1 + r = u2 * BB + u1
  ge : (u2 * BB + u1) * BB + u0 < (d + 1) * (v1 * BB + v0) ∨ BB - 1 ≤ d
  v1l : 0 < v1
  u2l : u2 ≤ v1
  u1l : u1 < BB
  u0l : u0 < BB
  v1b : v1 < BB
  v0b : v0 < BB
theorem GS.done {u2 u1 u0 v1 v0 d r : Nat} (h : GS u2 u1 u0 v1 v0 d r) (hd : d < BB) (hl : d * v0 ≤ r * BB + u0) : EstOk u2 u1 u0 v1 v0 d ∧ d * (v1 * BB + v0) ≤ (u2 * BB + u1) * BB + u0 := by
  refine ⟨⟨hd, ?_⟩, ?_⟩
  · rcases h.ge with h1 | h1
    · exact .inr h1
    · left; omega
  · rw [← h.eq, Nat.mul_add, ← Nat.mul_assoc, Nat.add_mul]
    omega
structure MS (us us' vs : List Nat) (j d i c lo : Nat) : Prop where
  limb : Limb us'
  len : us'.length = us.length
  high : ∀ k, j + i ≤ k → us'[k]?.getD 0 = us[k]?.getD 0
  cl : c < BB
  lol : lo ≤ 1
  eq : val us' + BB ^ j * (d * val (vs.take i)) = val us + BB ^ (j + i) * (c + lo)
theorem set_ne {zs : List Nat} {i j v : Nat} (h : i ≠ j) : (zs.set i v)[j]?.getD 0 = zs[j]?.getD 0 := Go.Proofs.YtigpnopeacicpaaGreatDoor.set_get_ne h
theorem MS.bound {us us' vs : List Nat} {j d i c lo : Nat} (h : MS us us' vs j d i c lo) (hd : d < BB) (hv : Limb vs) : c + d * (vs[i]?.getD 0) < BB * BB := by
  have h1 := h.cl
  have h2 := Nat.mul_le_mul (show d ≤ BB - 1 by omega) (show vs[i]?.getD 0 ≤ BB - 1 by have := hv.get i; omega)
  obtain ⟨k, hk⟩ : ∃ k, BB = k + 1 := ⟨BB - 1, by omega⟩
  rw [hk] at h1 h2 ⊢
  rw [Nat.add_sub_cancel] at h2
  rw [Nat.add_mul, Nat.mul_add]
  omega
theorem MS.step {us us' vs : List Nat} {j d i c lo t y lo' : Nat} (h : MS us us' vs j d i c lo) (hi : i < vs.length) (hj : j + i < us'.length) (hd : d < BB) (hv : Limb vs) (ht : c + d * (vs[i]?.getD 0) = t) (hl : lo' ≤ 1) (hy : y < BB) (he : y + (t % BB + lo) = us'[j + i]?.getD 0 + BB * lo') :
    MS us (us'.set (j + i) y) vs j d (i + 1) (t / BB) lo' := by
  have hb := h.bound hd hv
  rw [ht] at hb
  refine ⟨h.limb.set _ _ hy, by rw [List.length_set, h.len], fun k hk => by rw [set_ne (by omega)]; exact h.high k (by omega), by rwa [Nat.div_lt_iff_lt_mul BB_pos], hl, ?_⟩
  have h1 := sub_step (zs := us') (i := j + i) (v := t % BB + lo) (b := 0) (d := y) (b' := lo') hj (by omega)
  have h2 := h.eq
  have h3 := Nat.div_add_mod t BB
  rw [val_take_succ vs i hi, ← Nat.add_assoc j i 1, Nat.pow_succ, Nat.mul_assoc (BB ^ (j + i)) BB]
  have h4 : BB ^ j * (d * (val (vs.take i) + BB ^ i * vs[i]?.getD 0)) = BB ^ j * (d * val (vs.take i)) + BB ^ (j + i) * (d * vs[i]?.getD 0) := by
    rw [Nat.mul_add, Nat.mul_add, Nat.pow_add, Nat.mul_left_comm d, Nat.mul_assoc]
  rw [h4]
  rw [Nat.pow_succ, Nat.mul_assoc (BB ^ (j + i)) BB, Nat.mul_zero, Nat.add_zero] at h1
  have h5 := congrArg (fun z => BB ^ (j + i) * z) ht
  have h6 := congrArg (fun z => BB ^ (j + i) * z) h3
  simp only [Nat.mul_add] at h1 h2 h5 h6 ⊢
  omega
structure AS (us us' vs : List Nat) (j i c : Nat) : Prop where
  limb : Limb us'
  len : us'.length = us.length
  high : ∀ k, j + i ≤ k → us'[k]?.getD 0 = us[k]?.getD 0
  cl : c ≤ 1
  eq : val us' + BB ^ (j + i) * c = val us + BB ^ j * val (vs.take i)
theorem AS.step {us us' vs : List Nat} {j i c t : Nat} (h : AS us us' vs j i c) (hi : i < vs.length) (hj : j + i < us'.length) (hv : Limb vs) (ht : c + us'[j + i]?.getD 0 + vs[i]?.getD 0 = t) : AS us (us'.set (j + i) (t % BB)) vs j (i + 1) (t / BB) := by
  have h0 := h.cl
  have hp := BB_pos
  have h8 := h.limb.get (j + i)
  have h9 := hv.get i
  refine ⟨h.limb.set _ _ (Nat.mod_lt _ hp), by rw [List.length_set, h.len], fun k hk => by rw [set_ne (by omega)]; exact h.high k (by omega), ?_, ?_⟩
  · have : t / BB < 2 := by rw [Nat.div_lt_iff_lt_mul hp]; omega
    omega
  · have h1 := add_step (zs := us') (i := j + i) (v := vs[i]?.getD 0) (c := c) (lo := t % BB) (hi := t / BB) hj (by have := Nat.mod_add_div t BB; omega)
    have h2 := h.eq
    rw [val_take_succ vs i hi, Nat.mul_add, ← Nat.mul_assoc, ← Nat.pow_add, ← Nat.add_assoc j i 1]
    omega
end R
end Go.Proofs.YtigpnopeacicpaaGreatDoor

/-
  The reference's numbers: DivMod, the long division.
-/
namespace Go.Proofs.YtigpnopeacicpaaGreatDoor
open Go.RowKit

structure RW (w wr : World) (gu gq : Nat) (tl : List Value) (us qs : List Nat) (U0 V lu lq k : Nat) : Prop where
  li : R.LI us qs U0 V k
  bu : Blk wr gu 133 (limbV us ++ tl)
  bq : Blk wr gq 133 (limbV qs)
  ul : us.length = lu
  ql : qs.length = lq
  only : Only [gu, gq] w wr

theorem RW.step {w w6 wa : World} {gu gq : Nat} {tl : List Value} {us us' qs : List Nat} {U0 V lu lq j n d : Nat} (h : RW w w6 gu gq tl us qs U0 V lu lq (j + 1)) (hne : gu ≠ gq) (ho : Only [gu] w6 wa) (hb : Blk wa gu 133 (limbV us' ++ tl)) (hd : R.DI us us' V j n d 0) (hj : j < lq) :
    RW w (wa.setCell ⟨gq, j, none⟩ (.int .u64 (d : Int))) gu gq tl us' (qs.set j d) U0 V lu lq j ∧ (∃ q : Nat, wa.cell? ⟨gq, j, none⟩ = some (.int .u64 (q : Int))) ∧ wa.frozen? ⟨gq, j, none⟩ = false := by
  have hbq := h.bq.only ho (by simp; exact fun e => hne e.symm)
  have hql := h.ql
  refine ⟨⟨h.li.step hd (by omega), hb.far hne _, ?_, by rw [hd.len]; exact h.ul, by rw [List.length_set]; exact hql, (h.only.trans ho (by simp)).trans ((Only.refl [gq] wa).setCell (.inl (by simp)) _) (by simp)⟩, ⟨qs[j]?.getD 0, ?_⟩, hbq.frozen j⟩
  · rw [← limbV_set]
    exact hbq.set_ j _
  · rw [hbq.cell, limbV_get _ _ (by omega)]
structure RM (wr wx : World) (g : Nat) (tl : List Value) (us us' vs : List Nat) (j d i c lo : Nat) : Prop where
  ms : R.MS us us' vs j d i c lo
  blk : Blk wx g 133 (limbV us' ++ tl)
  only : Only [g] wr wx
theorem RM.step {wr wx wy : World} {g : Nat} {tl : List Value} {us us' vs : List Nat} {j d i c lo t y lo' : Nat} (h : RM wr wx g tl us us' vs j d i c lo) (hi : i < vs.length) (hj : j + i < us'.length) (hd : d < R.BB) (hv : R.Limb vs) (ht : c + d * (vs[i]?.getD 0) = t) (hl : lo' ≤ 1) (hy : y < R.BB) (he : y + (t % R.BB + lo) = us'[j + i]?.getD 0 + R.BB * lo')
    (hb : Blk wy g 133 (limbV (us'.set (j + i) y) ++ tl)) (ho : Only [g] wx wy) : RM wr wy g tl us (us'.set (j + i) y) vs j d (i + 1) (t / R.BB) lo' :=
  ⟨h.ms.step hi hj hd hv ht hl hy he, hb, h.only.trans ho (by simp)⟩
structure RA (wr wx : World) (g : Nat) (tl : List Value) (us us' vs : List Nat) (j i c : Nat) : Prop where
  st : R.AS us us' vs j i c
  blk : Blk wx g 133 (limbV us' ++ tl)
  only : Only [g] wr wx
theorem RA.step {wr wx wy : World} {g : Nat} {tl : List Value} {us us' vs : List Nat} {j i c t : Nat} (h : RA wr wx g tl us us' vs j i c) (hi : i < vs.length) (hj : j + i < us'.length) (hv : R.Limb vs) (ht : c + us'[j + i]?.getD 0 + vs[i]?.getD 0 = t)
    (hb : Blk wy g 133 (limbV (us'.set (j + i) (t % R.BB)) ++ tl)) (ho : Only [g] wx wy) : RA wr wy g tl us (us'.set (j + i) (t % R.BB)) vs j (i + 1) (t / R.BB) :=
  ⟨h.st.step hi hj hv ht, hb, h.only.trans ho (by simp)⟩
theorem RA.drewN {wr wx : World} {g : Nat} {tl : List Value} {us us' vs : List Nat} {j i c : Nat} (h : RA wr wx g tl us us' vs j i c) (n : Nat) : RA wr (wx.drewN n) g tl us us' vs j i c := ⟨h.st, h.blk.drewN n, h.only.drewN n⟩
end Go.Proofs.YtigpnopeacicpaaGreatDoor

/-
  The reference's numbers: DivMod, Sqrt.
-/
namespace Go.Proofs.YtigpnopeacicpaaGreatDoor
open Go.RowKit

theorem RV.same {w : World} {v : Value} {m n : Nat} (h : RV w v m) (h' : RV w v n) : m = n := by
  obtain ⟨A, c, rfl, h2, h3⟩ := h
  obtain ⟨A', c', e, k2, k3⟩ := h'
  injection e with e1 e2 e3
  subst e1 e3
  have e : R.limbsOf m = R.limbsOf n := by
    apply List.ext_getElem e2
    intro i h4 h5
    obtain ⟨b, o, rfl, hc⟩ := h2 i h4
    obtain ⟨b', o', e, hc'⟩ := k2 i h5
    injection e with e
    injection e with e7 e8 _
    subst e7 e8
    rw [hc] at hc'
    rw [List.getElem?_eq_getElem h4, List.getElem?_eq_getElem h5] at hc'
    simp only [Option.getD_some, Option.some.injEq, Value.int.injEq, true_and] at hc'
    omega
  rw [← R.val_limbsOf m, e, R.val_limbsOf]
end Go.Proofs.YtigpnopeacicpaaGreatDoor

/-
  A walk's numbers of the reference's: the values at hand and what they read as.
-/
namespace Go.Proofs.YtigpnopeacicpaaGreatDoor
open Go.RowKit

def RVs (w : World) : List Value → List Nat → Prop
  | [], [] => True
  | v :: vs, n :: ns => RV w v n ∧ RVs w vs ns
  | _, _ => False
theorem RVs.only {w w' : World} (ho : Only [] w w') : ∀ {vs : List Value} {ns : List Nat}, RVs w vs ns → RVs w' vs ns
  | [], [], h => h
  | [], _ :: _, h => h.elim
  | _ :: _, [], h => h.elim
  | _ :: _, _ :: _, h => ⟨h.1.only ho, RVs.only ho h.2⟩
theorem RVs.get {w : World} : ∀ {vs : List Value} {ns : List Nat} (i : Nat) {v : Value} {n : Nat}, RVs w vs ns → vs[i]? = some v → ns[i]? = some n → RV w v n
  | [], [], i, v, n, _, h1, _ => by simp at h1
  | [], _ :: _, _, _, _, h, _, _ => h.elim
  | _ :: _, [], _, _, _, h, _, _ => h.elim
  | v :: vs, n :: ns, 0, _, _, h, h1, h2 => by
    simp only [List.getElem?_cons_zero, Option.some.injEq] at h1 h2
    subst h1 h2
    exact h.1
  | v :: vs, n :: ns, i + 1, _, _, h, h1, h2 => RVs.get i h.2 (by simpa using h1) (by simpa using h2)
theorem RVs.at {w : World} {vs : List Value} {ns : List Nat} (h : Hid (RVs w vs ns)) (i : Nat) {v : Value} {n : Nat} (h1 : vs[i]? = some v) (h2 : ns[i]? = some n) : Hid (RV w v n) := RVs.get i h.out h1 h2
theorem RVs.step {w w' : World} {vs : List Value} {ns : List Nat} (h : RVs w vs ns) (ho : Only [] w w') : RVs w' vs ns := RVs.only ho h
theorem RVs.push {w : World} {vs : List Value} {ns : List Nat} (h : RVs w vs ns) {v : Value} {n : Nat} (hv : RV w v n) : RVs w (v :: vs) (n :: ns) := ⟨hv, h⟩
end Go.Proofs.YtigpnopeacicpaaGreatDoor

/-
  The reference's balls: what a struct reads as; ref, Is, alike; Top.
-/
namespace Go.Proofs.YtigpnopeacicpaaGreatDoor
set_option linter.unusedSimpArgs false
open Go.RowKit

theorem rrefB_d {w : World} {a : Value} {x : Dy} {N : Nat} (r : Dy) (hr : nrm x.z x.e = r) (ha : Hid (DV w a x)) (bx : Hid (Bnd N x)) (hN : N ≤ 8000000) : Calls Tryz.prog 18 #[a] w (RDP r w) := hr ▸ rref_d ha bx hN
def RBV (w : World) (v : Value) (x y : Dy) : Prop := ∃ s A k c t B m d, v = .agg #[.bool s, .slice A k c, .int .i64 x.e, .bool t, .slice B m d, .int .i64 y.e] ∧ RD w (.agg #[.bool s, .slice A k c, .int .i64 x.e]) x ∧ RD w (.agg #[.bool t, .slice B m d, .int .i64 y.e]) y
theorem RBV.only {w w' : World} {v : Value} {x y : Dy} (h : RBV w v x y) (ho : Only [] w w') : RBV w' v x y := by
  obtain ⟨s, A, k, c, t, B, m, d, h1, h2, h3⟩ := h
  exact ⟨s, A, k, c, t, B, m, d, h1, h2.only ho, h3.only ho⟩
theorem RBV.of {w : World} {x y : Dy} {s t : Bool} {A B : Option Addr} {k c m d : Nat} (h : Hid (RV w (.slice A k c) x.z.natAbs)) (hc : Hid (Cr s k x.z)) (h' : Hid (RV w (.slice B m d) y.z.natAbs)) (hc' : Hid (Cr t m y.z)) : Hid (RBV w (.agg #[.bool s, .slice A k c, .int .i64 x.e, .bool t, .slice B m d, .int .i64 y.e]) x y) :=
  ⟨s, A, k, c, t, B, m, d, rfl, (RD.of h hc).out, (RD.of h' hc').out⟩
theorem RBV.mk {w : World} {x y : Dy} {s t : Bool} {A B : Option Addr} {k c m d : Nat} (h : Hid (RD w (.agg #[.bool s, .slice A k c, .int .i64 x.e]) x)) (h' : Hid (RD w (.agg #[.bool t, .slice B m d, .int .i64 y.e]) y)) : Hid (RBV w (.agg #[.bool s, .slice A k c, .int .i64 x.e, .bool t, .slice B m d, .int .i64 y.e]) x y) :=
  ⟨s, A, k, c, t, B, m, d, rfl, h.out, h'.out⟩
def isRB (x y : Dy) : VP := fun v w => RBV w v x y
theorem isRB.lasts (x y : Dy) : Lasts (isRB x y) := fun _ _ _ h ho => h.only ho
theorem rd_parts {w : World} {x : Dy} {s : Bool} {A : Option Addr} {k c : Nat} (h : RD w (.agg #[.bool s, .slice A k c, .int .i64 x.e]) x) : Cr s k x.z ∧ RV w (.slice A k c) x.z.natAbs := by
  obtain ⟨s', A', k', c', e, h1, h2⟩ := h
  simp only [Value.agg.injEq, Array.mk.injEq, List.cons.injEq, Value.bool.injEq, Value.slice.injEq, and_true] at e
  obtain ⟨rfl, rfl, rfl, rfl⟩ := e
  exact ⟨h1, h2⟩
theorem all_isRB {x y : Dy} {w : World} {K : Value → Prop} (h : ∀ s A k c t B m d, Hid (RD w (.agg #[.bool s, .slice A k c, .int .i64 x.e]) x) → Hid (RD w (.agg #[.bool t, .slice B m d, .int .i64 y.e]) y) → K (.agg #[.bool s, .slice A k c, .int .i64 x.e, .bool t, .slice B m d, .int .i64 y.e])) : ∀ v, isRB x y v w → K v := fun v ⟨s, A, k, c, t, B, m, d, h1, h2, h3⟩ => by
  subst h1
  exact h s A k c t B m d h2 h3
def isBC (x y : Dy) : VP := fun v w => ∃ s A k c t B m d, v = .agg #[.bool s, .slice A k c, .int .i64 x.e, .bool t, .slice B m d, .int .i64 y.e] ∧ isD x (.agg #[.bool s, .slice A k c, .int .i64 x.e]) w ∧ isD y (.agg #[.bool t, .slice B m d, .int .i64 y.e]) w
theorem isBC.lasts (x y : Dy) : Lasts (isBC x y) := fun _ _ _ ⟨s, A, k, c, t, B, m, d, h1, h2, h3⟩ ho => ⟨s, A, k, c, t, B, m, d, h1, isD.lasts x _ _ _ h2 ho, isD.lasts y _ _ _ h3 ho⟩
theorem all_isBC {x y : Dy} {w : World} {K : Value → Prop} (h : ∀ s A k c t B m d, Hid (isD x (.agg #[.bool s, .slice A k c, .int .i64 x.e]) w) → Hid (isD y (.agg #[.bool t, .slice B m d, .int .i64 y.e]) w) → K (.agg #[.bool s, .slice A k c, .int .i64 x.e, .bool t, .slice B m d, .int .i64 y.e])) : ∀ v, isBC x y v w → K v := fun v ⟨s, A, k, c, t, B, m, d, h1, h2, h3⟩ => by
  subst h1
  exact h s A k c t B m d h2 h3
theorem isBC.mk {w : World} {x y : Dy} {s t : Bool} {A B : Option Addr} {k c m d : Nat} (h : Hid (isD x (.agg #[.bool s, .slice A k c, .int .i64 x.e]) w)) (h' : Hid (isD y (.agg #[.bool t, .slice B m d, .int .i64 y.e]) w)) : Hid (isBC x y (.agg #[.bool s, .slice A k c, .int .i64 x.e, .bool t, .slice B m d, .int .i64 y.e]) w) :=
  ⟨s, A, k, c, t, B, m, d, rfl, h.out, h'.out⟩
set_option maxHeartbeats 8000000 in
set_option maxRecDepth 100000 in
theorem is5_b {w : World} {a b : Value} {x y : Dy} {N : Nat} (ha : Hid (isBC x y a w)) (hb : Hid (RBV w b x y)) (cx : Hid (Can x)) (cy : Hid (Can y)) (bx : Hid (Bnd N x)) (by_ : Hid (Bnd N y)) (hN : N ≤ 1000000) : Calls Tryz.prog 14 #[a, b] w fun e w' => e = .returned (.bool true) ∧ Only [] w w' := by
  obtain ⟨s1, A1, k1, c1, t1, B1, m1, d1, rfl, hx1, hy1⟩ := ha.out
  obtain ⟨s2, A2, k2, c2, t2, B2, m2, d2, rfl, hx2, hy2⟩ := hb.out
  have hk := ((KB.start w).new 34 [.bool s1, .slice A1 k1 c1, .int .i64 x.e, .bool t1, .slice B1 m1 d1, .int .i64 y.e]).new 40 [.bool s2, .slice A2 k2 c2, .int .i64 x.e, .bool t2, .slice B2 m2 d2, .int .i64 y.e]
  simp only [World.size_alloc] at hk
  have HX1 := Lib.hid (isD.lasts _ _ _ _ hx1 hk.only)
  have HY1 := Lib.hid (isD.lasts _ _ _ _ hy1 hk.only)
  have HX2 := Lib.hid (hx2.only hk.only)
  have HY2 := Lib.hid (hy2.only hk.only)
  have HK := Lib.hid hk
  clear hk hx1 hy1 hx2 hy2 ha hb
  go_enter Tryz.func14, Tryz.ntmps14
  obtain ⟨i0, i1, i2, i3, i4, i5⟩ := HK.out.c6 1 rfl
  obtain ⟨j0, j1, j2, j3, j4, j5⟩ := HK.out.c6 0 rfl
  go_wp2_with fail
  (with_reducible refine (is3_d (x := x) HX1 HX2 cx bx hN).mono ?_)
  rintro e w3 ⟨rfl, ho⟩
  replace HK := Lib.hid (HK.out.step ho)
  replace HY1 := Lib.hid (isD.lasts _ _ _ _ HY1.out ho)
  replace HY2 := Lib.hid (HY2.out.only ho)
  clear ho i0 i1 i2 i3 i4 i5 j0 j1 j2 j3 j4 j5 HX1 HX2
  obtain ⟨i0, i1, i2, i3, i4, i5⟩ := HK.out.c6 1 rfl
  obtain ⟨j0, j1, j2, j3, j4, j5⟩ := HK.out.c6 0 rfl
  go_wp2_with fail
  (with_reducible refine (is3_d (x := y) HY1 HY2 cy by_ hN).mono ?_)
  rintro e w4 ⟨rfl, ho⟩
  replace HK := Lib.hid (HK.out.step ho)
  clear ho
  go_wp2_with fail
  go_ret
  exact ⟨rfl, HK.out.only⟩
end Go.Proofs.YtigpnopeacicpaaGreatDoor

/-
  The reference's dyads at hand, as a list; boxes of two cells.
-/
namespace Go.Proofs.YtigpnopeacicpaaGreatDoor
set_option linter.unusedSimpArgs false
open Go.RowKit
structure RX where
  s : Bool
  a : Option Addr
  k : Nat
  c : Nat
  x : Dy
def RL (w : World) (L : List RX) : Prop := ∀ (i : Nat) (y : RX), L[i]? = some y → Cr y.s y.k y.x.z ∧ RV w (.slice y.a y.k y.c) y.x.z.natAbs
theorem RL.nil (w : World) : RL w [] := fun i y h => by simp at h
theorem RL.cons {w : World} {L : List RX} (h : RL w L) {s : Bool} {A : Option Addr} {k c : Nat} {x : Dy} (hv : Hid (RV w (.slice A k c) x.z.natAbs)) (hc : Hid (Cr s k x.z)) : RL w (⟨s, A, k, c, x⟩ :: L) := fun i y hy => by
  rcases i with _ | i
  · obtain rfl := (Option.some.inj hy).symm; exact ⟨hc.out, hv.out⟩
  · exact h i y hy
theorem RL.step {w w' : World} {L : List RX} (h : RL w L) (ho : Only [] w w') : RL w' L := fun i y hy => ⟨(h i y hy).1, (h i y hy).2.only ho⟩
theorem RL.far {w w' : World} {L : List RX} (h : RL w L) {g : Nat} {t : TypeId} {cs : List Value} (ho : Only [g] w w') (hb : Blk w g t cs) (hn : NoLimb cs) : RL w' L := fun i y hy =>
  ⟨(h i y hy).1, (h i y hy).2.farS ho (fun g' hg' => by rw [List.mem_singleton] at hg'; subst hg'; exact (h i y hy).2.far_blk hb hn)⟩
theorem RL.rd {w : World} {L : List RX} (h : Hid (RL w L)) (i : Nat) {s : Bool} {A : Option Addr} {k c : Nat} {x : Dy} (hi : L[i]? = some ⟨s, A, k, c, x⟩) : Hid (RD w (.agg #[.bool s, .slice A k c, .int .i64 x.e]) x) :=
  ⟨s, A, k, c, rfl, (h.out i _ hi).1, (h.out i _ hi).2⟩
theorem GB.c2 {w0 w : World} {L : List EB} (h : Hid (GB w0 w L)) (i : Nat) {g : Nat} {t : TypeId} {a b : Value} (hi : L[i]? = some ⟨g, t, [a, b]⟩) :
    w.cell? ⟨g, 0, none⟩ = some a ∧ w.cell? ⟨g, 1, none⟩ = some b :=
  have hb := GB.blk h i hi
  ⟨hb.cell 0, hb.cell 1⟩
end Go.Proofs.YtigpnopeacicpaaGreatDoor

/-
  The reference's balls: the least and the greatest of four.
-/
namespace Go.Proofs.YtigpnopeacicpaaGreatDoor
set_option linter.unusedSimpArgs false
open Go.RowKit

def E4 (w : World) (g : Nat) (dv : Nat → Dy) : Prop := ∀ n, n < 4 → ∃ s A k c, w.cell? ⟨g, n * 3, none⟩ = some (.bool s) ∧ w.cell? ⟨g, n * 3 + 1, none⟩ = some (.slice A k c) ∧ w.cell? ⟨g, n * 3 + 2, none⟩ = some (.int .i64 (dv n).e) ∧ RD w (.agg #[.bool s, .slice A k c, .int .i64 (dv n).e]) (dv n)
theorem E4.only {w w' : World} {g : Nat} {dv : Nat → Dy} (h : E4 w g dv) (ho : Only [] w w') : E4 w' g dv := fun n hn => by
  obtain ⟨s, A, k, c, h0, h1, h2, h3⟩ := h n hn
  exact ⟨s, A, k, c, ho.cell h0 (by simp), ho.cell h1 (by simp), ho.cell h2 (by simp), h3.only ho⟩
theorem RD.far {w w' : World} {x : Dy} {s : Bool} {A : Option Addr} {k c g : Nat} {t : TypeId} {cs : List Value} (h : RD w (.agg #[.bool s, .slice A k c, .int .i64 x.e]) x) (ho : Only [g] w w') (hb : Blk w g t cs) (hn : NoLimb cs) : RD w' (.agg #[.bool s, .slice A k c, .int .i64 x.e]) x := by
  obtain ⟨h1, h2⟩ := rd_parts h
  have h3 := ((RL.nil w).cons (Lib.hid h2) (Lib.hid h1)).far ho hb hn
  exact (RL.rd (x := x) (Lib.hid h3) 0 rfl).out
theorem E4.far {w w' : World} {g b : Nat} {dv : Nat → Dy} {t : TypeId} {cs : List Value} (h : E4 w g dv) (ho : Only [b] w w') (hb : Blk w b t cs) (hn : NoLimb cs) (hne : g ≠ b) : E4 w' g dv := fun n hn' => by
  obtain ⟨s, A, k, c, h0, h1, h2, h3⟩ := h n hn'
  exact ⟨s, A, k, c, ho.cell h0 (by simpa using hne), ho.cell h1 (by simpa using hne), ho.cell h2 (by simpa using hne), h3.far ho hb hn⟩
def isE4 (dv : Nat → Dy) : VP := fun u w => ∃ g, u = .slice (some ⟨g, 0, none⟩) 4 4 ∧ E4 w g dv
theorem isE4.lasts (dv : Nat → Dy) : Lasts (isE4 dv) := fun _ _ _ ⟨g, h1, h2⟩ ho => ⟨g, h1, h2.only ho⟩
theorem all_isE4 {dv : Nat → Dy} {w : World} {K : Value → Prop} (h : ∀ g, Hid (E4 w g dv) → K (.slice (some ⟨g, 0, none⟩) 4 4)) : ∀ v, isE4 dv v w → K v := fun v ⟨g, h1, h2⟩ => by
  subst h1
  exact h g h2
def d4 (a b c d : Dy) : Nat → Dy | 0 => a | 1 => b | 2 => c | _ => d
theorem isE4.new {w : World} {a b c d : Dy} {s0 s1 s2 s3 : Bool} {A0 A1 A2 A3 : Option Addr} {k0 k1 k2 k3 c0 c1 c2 c3 : Nat} (h0 : Hid (RD w (.agg #[.bool s0, .slice A0 k0 c0, .int .i64 a.e]) a)) (h1 : Hid (RD w (.agg #[.bool s1, .slice A1 k1 c1, .int .i64 b.e]) b)) (h2 : Hid (RD w (.agg #[.bool s2, .slice A2 k2 c2, .int .i64 c.e]) c)) (h3 : Hid (RD w (.agg #[.bool s3, .slice A3 k3 c3, .int .i64 d.e]) d)) :
    Only [] w (w.alloc (.cells #[.bool s0, .slice A0 k0 c0, .int .i64 a.e, .bool s1, .slice A1 k1 c1, .int .i64 b.e, .bool s2, .slice A2 k2 c2, .int .i64 c.e, .bool s3, .slice A3 k3 c3, .int .i64 d.e] 38)) ∧ isE4 (d4 a b c d) (.slice (some ⟨w.heap.size, 0, none⟩) 4 4) (w.alloc (.cells #[.bool s0, .slice A0 k0 c0, .int .i64 a.e, .bool s1, .slice A1 k1 c1, .int .i64 b.e, .bool s2, .slice A2 k2 c2, .int .i64 c.e, .bool s3, .slice A3 k3 c3, .int .i64 d.e] 38)) := by
  have ho := (Only.refl [] w).alloc (.cells #[.bool s0, .slice A0 k0 c0, .int .i64 a.e, .bool s1, .slice A1 k1 c1, .int .i64 b.e, .bool s2, .slice A2 k2 c2, .int .i64 c.e, .bool s3, .slice A3 k3 c3, .int .i64 d.e] 38)
  have hb := Blk.new w 38 [.bool s0, .slice A0 k0 c0, .int .i64 a.e, .bool s1, .slice A1 k1 c1, .int .i64 b.e, .bool s2, .slice A2 k2 c2, .int .i64 c.e, .bool s3, .slice A3 k3 c3, .int .i64 d.e]
  refine ⟨ho, _, rfl, fun n hn => ?_⟩
  obtain rfl | rfl | rfl | rfl : n = 0 ∨ n = 1 ∨ n = 2 ∨ n = 3 := by omega
  · exact ⟨s0, A0, k0, c0, hb.cell 0, hb.cell 1, hb.cell 2, h0.out.only ho⟩
  · exact ⟨s1, A1, k1, c1, hb.cell 3, hb.cell 4, hb.cell 5, h1.out.only ho⟩
  · exact ⟨s2, A2, k2, c2, hb.cell 6, hb.cell 7, hb.cell 8, h2.out.only ho⟩
  · exact ⟨s3, A3, k3, c3, hb.cell 9, hb.cell 10, hb.cell 11, h3.out.only ho⟩
end Go.Proofs.YtigpnopeacicpaaGreatDoor
