/-
  The reference's dyads: Round.
-/
import Derived.Test.YtkibkmdgibemkaaGreatDoorTbRdF
namespace Go.Proofs.YtkibkmdgibemkaaGreatDoor
set_option linter.unusedSimpArgs false
open Go.RowKit

/-- Two numbers of the reference's at once. -/
def isRP (m n : Nat) : VP := fun u w => ∃ A k c B j d, u = .tuple #[.slice A k c, .slice B j d] ∧ RV w (.slice A k c) m ∧ RV w (.slice B j d) n
theorem isRP.lasts (m n : Nat) : Lasts (isRP m n) := fun _ _ _ ⟨A, k, c, B, j, d, h1, h2, h3⟩ ho => ⟨A, k, c, B, j, d, h1, h2.only ho, h3.only ho⟩
theorem all_isRP {m n : Nat} {w : World} {K : Value → Prop} (h : ∀ A k c B j d, Hid (RV w (.slice A k c) m) → Hid (RV w (.slice B j d) n) → K (.tuple #[.slice A k c, .slice B j d])) : ∀ v, isRP m n v w → K v := fun v ⟨A, k, c, B, j, d, h1, h2, h3⟩ => by
  subst h1
  exact h A k c B j d h2 h3
theorem grow_rp {f : FuncId} {args : Array Value} {w : World} {m n : Nat} (h : Calls Tryz.prog f args w (RDPost m n w)) :
    Calls Tryz.prog f args w fun e w'' => ∃ u, e = .returned u ∧ Only [] w w'' ∧ isRP (m / n) (m % n) u w'' :=
  h.mono fun _ _ ⟨A, k, c, A', k', c', he, h1, h2, _, ho⟩ => ⟨_, he, ho, A, k, c, A', k', c', rfl, h1, h2⟩
theorem qbits_v (p : Int) (P : Nat) (hP : widthP p = P) (w : World) : Calls Tryz.prog 128 #[.int .i64 p] w fun e w' => e = .returned (.int .i64 (P : Int)) ∧ w = w' := by
  have h : (P : Int) = min (max p 1) 65536 := by rw [← hP]; unfold widthP; omega
  rw [h]
  clear h hP
  go_enter Tryz.func128, Tryz.ntmps128
  go_wp2
  go_ret
  exact ⟨rfl, rfl⟩
set_option maxHeartbeats 8000000 in
set_option maxRecDepth 100000 in
theorem rround_core {w : World} {s : Bool} {A : Option Addr} {k c n K : Nat} {x : Dy} (p dir : Int) (P : Nat) (r : Dy) (HP : Hid (widthP p = P)) (HR : Hid (cutR P (decide (0 ≤ dir)) s n x.e false = r)) (hv : RV w (.slice A k c) n) (hm : Hid (n < 2 ^ K)) (hK : K ≤ 40000000) (hP1 : 1 ≤ P) (hP2 : P ≤ 100000) (he1 : -1000000000000 ≤ x.e) (he2 : x.e ≤ 1000000000000) :
    Calls Tryz.prog 53 #[.agg #[.bool s, .slice A k c, .int .i64 x.e], .int .i64 p, .int .i64 dir] w (RDP r w) := by
  have hk := ((KB.start w).new 62 [.bool s, .slice A k c, .int .i64 x.e]).new 62 [.bool false, .slice none 0 0, .int .i64 0]
  simp only [World.size_alloc] at hk
  have HV := Lib.hid (hv.only hk.only)
  have HK := Lib.hid hk
  clear hk hv
  go_enter Tryz.func53, Tryz.ntmps53
  go_upto_region 1 with fail
  apply wp_region_typed_tail2 10 (by kernel_rfl) [isV _, isV _, isV _, isV _, isV _, isV _, isV _, isV _, isV _, isRD r] [[], [0], [], [2], [], [4], [], [6], [], [1, 3, 5, 7, 8]] (by kernel_rfl) (by kernel_rfl) (by kernel_rfl)
  case ho =>
    simp only [List.take_succ_cons, List.take_zero]
    refine owes2_cons (fun wx hox => ?_) ?_
    · skip
      skip
      refine withs_plain rfl ?_
      simp only [withs, List.getElem?_cons_zero, List.getElem?_cons_succ, Option.bind, Option.getD]
      repeat (first | (with_reducible refine all_isV ?_) | (with_reducible refine all_isRD ?_; intro sx Ax kx cx hvx hwx))
      go_simp
      exact ⟨Only.refl _ _, isV.self _ _⟩
    refine owes2_cons (fun wx hox => ?_) ?_
    · skip
      have hk := HK.out.step hox
      obtain ⟨i0, i1, i2, -, -, -⟩ := hk.c3 1 rfl
      clear hk
      refine withs_plain rfl ?_
      simp only [withs, List.getElem?_cons_zero, List.getElem?_cons_succ, Option.bind, Option.getD]
      repeat (first | (with_reducible refine all_isV ?_) | (with_reducible refine all_isRD ?_; intro sx Ax kx cx hvx hwx))
      go_simp
      exact ⟨Only.refl _ _, isV.self _ _⟩
    refine owes2_cons (fun wx hox => ?_) ?_
    · skip
      skip
      refine withs_plain rfl ?_
      simp only [withs, List.getElem?_cons_zero, List.getElem?_cons_succ, Option.bind, Option.getD]
      repeat (first | (with_reducible refine all_isV ?_) | (with_reducible refine all_isRD ?_; intro sx Ax kx cx hvx hwx))
      go_simp
      exact ⟨Only.refl _ _, isV.self _ _⟩
    refine owes2_cons (fun wx hox => ?_) ?_
    · skip
      have hk := HK.out.step hox
      obtain ⟨i0, i1, i2, -, -, -⟩ := hk.c3 1 rfl
      clear hk
      refine withs_plain rfl ?_
      simp only [withs, List.getElem?_cons_zero, List.getElem?_cons_succ, Option.bind, Option.getD]
      repeat (first | (with_reducible refine all_isV ?_) | (with_reducible refine all_isRD ?_; intro sx Ax kx cx hvx hwx))
      go_simp
      exact ⟨Only.refl _ _, isV.self _ _⟩
    refine owes2_cons (fun wx hox => ?_) ?_
    · skip
      skip
      refine withs_plain rfl ?_
      simp only [withs, List.getElem?_cons_zero, List.getElem?_cons_succ, Option.bind, Option.getD]
      repeat (first | (with_reducible refine all_isV ?_) | (with_reducible refine all_isRD ?_; intro sx Ax kx cx hvx hwx))
      go_simp
      exact ⟨Only.refl _ _, isV.self _ _⟩
    refine owes2_cons (fun wx hox => ?_) ?_
    · skip
      have hk := HK.out.step hox
      obtain ⟨i0, i1, i2, -, -, -⟩ := hk.c3 1 rfl
      clear hk
      refine withs_plain rfl ?_
      simp only [withs, List.getElem?_cons_zero, List.getElem?_cons_succ, Option.bind, Option.getD]
      repeat (first | (with_reducible refine all_isV ?_) | (with_reducible refine all_isRD ?_; intro sx Ax kx cx hvx hwx))
      go_simp
      exact ⟨Only.refl _ _, isV.self _ _⟩
    refine owes2_cons (fun wx hox => ?_) ?_
    · skip
      skip
      refine withs_plain rfl ?_
      simp only [withs, List.getElem?_cons_zero, List.getElem?_cons_succ, Option.bind, Option.getD]
      repeat (first | (with_reducible refine all_isV ?_) | (with_reducible refine all_isRD ?_; intro sx Ax kx cx hvx hwx))
      go_simp
      exact ⟨Only.refl _ _, isV.self _ _⟩
    refine owes2_cons (fun wx hox => ?_) ?_
    · skip
      have hk := HK.out.step hox
      obtain ⟨i0, i1, i2, -, -, -⟩ := hk.c3 1 rfl
      clear hk
      refine withs_plain rfl ?_
      simp only [withs, List.getElem?_cons_zero, List.getElem?_cons_succ, Option.bind, Option.getD]
      repeat (first | (with_reducible refine all_isV ?_) | (with_reducible refine all_isRD ?_; intro sx Ax kx cx hvx hwx))
      go_simp
      (with_reducible exact grow_same (qbits_v p P HP.out _))
    refine owes2_cons (fun wx hox => ?_) ?_
    · skip
      skip
      refine withs_plain rfl ?_
      simp only [withs, List.getElem?_cons_zero, List.getElem?_cons_succ, Option.bind, Option.getD]
      repeat (first | (with_reducible refine all_isV ?_) | (with_reducible refine all_isRD ?_; intro sx Ax kx cx hvx hwx))
      go_simp
      exact ⟨Only.refl _ _, isV.self _ _⟩
    refine owes2_cons (fun wx hox => ?_) ?_
    · skip
      have hk := HK.out.step hox
      obtain ⟨i0, i1, i2, -, -, -⟩ := hk.c3 1 rfl
      clear hk
      refine withs_plain rfl ?_
      simp only [withs, List.getElem?_cons_zero, List.getElem?_cons_succ, Option.bind, Option.getD]
      repeat (first | (with_reducible refine all_isV ?_) | (with_reducible refine all_isRD ?_; intro sx Ax kx cx hvx hwx))
      go_simp
      (with_reducible exact grow_rd (rcut_d (K := K) s false x.e dir P r HR.out (Lib.hid (HV.out.only hox)) hm.out hK hP1 hP2 he1 he2))
    exact owes2_nil
  case he =>
    simp only [List.drop_succ_cons, List.drop_zero]
    intro wx hox
    refine withs_of (by simp only [List.length, List.range, List.range.loop]; exact rfl) ?_
    simp only [withs, List.getElem?_cons_zero, List.getElem?_cons_succ, Option.bind, Option.getD]
    with_reducible refine all_isV ?_
    with_reducible refine all_isV ?_
    with_reducible refine all_isV ?_
    with_reducible refine all_isV ?_
    with_reducible refine all_isV ?_
    with_reducible refine all_isV ?_
    with_reducible refine all_isV ?_
    with_reducible refine all_isV ?_
    with_reducible refine all_isV ?_
    with_reducible refine all_isRD ?_
    intro s9 A9 k9 c9 hv9 hw9
    go_simp
    have hk := HK.out.step hox
    obtain ⟨q0, q1, q2, f0, f1, f2⟩ := hk.c3 0 rfl
    have HB := Lib.hid (hk.blk 0 rfl)
    have HO := Lib.hid hk.only
    clear hk hox HK
    go_wp2_with fail
    refine bodyPost_ret (v := .agg #[.bool s9, .slice A9 k9 c9, .int .i64 (r.e)]) (by simp [results, Tryz.results53, go_sem, q0, q1, q2]) rfl ?_
    exact rdfin hv9 hw9 (by omega) HB.out (noLimb3 _ _ _ _ _) HO.out (only_set3 _ _ _ _ _)
  case hl =>
    repeat (refine List.forall_mem_cons.2 ⟨?_, ?_⟩; first | exact isV.lasts _ | exact isRD.lasts _)
    exact fun _ h => (by cases h)
theorem rround_d {w : World} {a : Value} {x : Dy} {N : Nat} (p dir : Int) (r : Dy) (hr : rndD (widthP p) (decide (0 ≤ dir)) x = r) (ha : Hid (RD w a x)) (hb : Hid (Bnd N x)) (hN : N ≤ 8000000) : Calls Tryz.prog 53 #[a, .int .i64 p, .int .i64 dir] w (RDP r w) := by
  have he := rlim_i64 hb.out hN
  have hw := widthP_range p
  obtain ⟨s, A, k, c, rfl, hc, hv⟩ := ha.out
  refine rround_core (K := N) p dir _ r (Lib.hid rfl) (Lib.hid ?_) hv (Lib.hid hb.out.z) (by omega) hw.1 (by omega) (by omega) (by omega)
  rw [hc.1, rnd_ref hw.1]
  exact hr

end Go.Proofs.YtkibkmdgibemkaaGreatDoor
