/-
  compasslaw2.Is by value.
-/
import Derived.Test.YtafipkighpjknaaDoorRwA
namespace Go.Proofs.YtafipkighpjknaaDoor
set_option linter.unusedSimpArgs false
open Go.RowKit

theorem withs_guardN {P : Program} {l : List Oper} {Ps : List VP} {w : World} {o : Oper} {p : VP} {js : List Nat} {a0 : Act} {g d : Nat} {want : Bool} (b : Bool) (hb : want = !b) (hg : o.guard = some (g, want)) (hd : dstOf l g = some d) (h : withs l Ps w (fun a => a.tmps[d]? = some (.bool b) ∧ p undef w) js a0) : withs l Ps w (fun a => growIf P l o a w p) js a0 :=
  withs_mono (fun _ hh => growIf_no hg hd hh.1 hb hh.2) js a0 h
theorem last_limb {w : World} {A : Option Addr} {k c n : Nat} (h : NV w (.slice A k c) n) (hk : k = (limbsOf n).length) (h0 : 0 < k) : ∃ b o v, A = some ⟨b, o, none⟩ ∧ w.cell? ⟨b, o + (k - 1), none⟩ = some (.int .u64 (v : Int)) ∧ ((v : Int) != 0) = true := by
  obtain ⟨A', c', xs, e, h2, h3, h4, h5⟩ := h
  injection e with e1 e2 e3
  subst e1 e2 e3
  have hx : xs = limbsOf n := by
    have h6 := (limbsOf_take h2.limb).1
    rw [h5, ← hk, List.take_length] at h6
    exact h6
  obtain ⟨b, o, rfl, hc⟩ := h2.read (xs.length - 1) (by omega)
  refine ⟨b, o, _, rfl, hc, ?_⟩
  have hcan := canon_limbsOf n
  rw [← hx] at hcan
  have := hcan (by omega)
  rw [bne_iff_ne]
  rw [List.getElem?_eq_getElem (by omega)]
  simp only [Option.getD_some]
  omega
set_option maxHeartbeats 3200000 in
set_option maxRecDepth 100000 in
theorem is2_w {w : World} {s : Bool} {A : Option Addr} {k c : Nat} {b : Value} {z : Int} {N : Nat} (ha : Hid (IV w (.agg #[.bool s, .slice A k c]) z)) (hc : Hid (Cn s k z)) (hb : Hid (RD w b (nrm z 0))) (bz : Hid (Bnd N (nrm z 0))) (hN : N ≤ 1000000) : Calls Tryd.prog 41 #[.agg #[.bool s, .slice A k c], b] w fun e w' => e = .returned (.bool true) ∧ Only [] w w' := by
  obtain ⟨t, B, m, d, rfl, hcy, hvy⟩ := hb.out
  have hk := ((KB.start w).new 51 [.bool s, .slice A k c]).new 53 [.bool t, .slice B m d, .int .i64 (nrm z 0).e]
  simp only [World.size_alloc] at hk
  have HI := Lib.hid (ha.out.only hk.only)
  have HB2 : Hid (RD _ (.agg #[.bool t, .slice B m d, .int .i64 (nrm z 0).e]) (nrm z 0)) := hb.out.only hk.only
  have HCan : Hid (Can (nrm z 0)) := nrm_can _ _
  have HBd := bz
  have HBd2 := bz
  have HEq : Hid (nrm z 0 = nrm z 0) := rfl
  have HK := Lib.hid hk
  have hmag := ha.out.mag.only hk.only
  have hkl : (k : Int) ≤ 1000000 := by rw [hc.out.2]; exact ha.out.few.len
  clear hk hvy hcy hb ha
  by_cases h0 : k = 0
  · subst h0
    have hz : z = 0 := by
      have h1 := hc.out.2
      have h2 : (limbsOf z.natAbs).length = 0 := h1.symm
      have h3 := limbsOf_len0.1 h2
      omega
    obtain rfl : s = false := by rw [hc.out.1, hz]; rfl
    clear hc hz hmag
    go_enter Tryd.func41, Tryd.ntmps41
    go_upto_region 1 with fail
    apply wp_region_typed2 (by kernel_rfl) [isV _, isRD (nrm z 0), isV _, isV _, isV _, isV _, isV _, isV _, isV _, isV _, isV undef, isV undef, isV undef, isV undef, isV undef, isV undef, isV undef, isV undef, isV undef, isV _, isV _, isV _, isV _, isV _, isV _, isV _, isV _, isV _, isV _, isV _, isV _, isV _, isV _] [[], [0], [], [1, 2], [3], [4], [4, 5], [4, 6], [4, 7], [4, 8], [9], [9, 10], [9], [9, 12], [9, 13], [9, 14], [9, 11, 15], [9, 16], [9, 17], [4, 9, 18], [4, 19], [20], [21], [21, 22], [21, 23], [21, 24], [21, 25], [26], [26, 27], [26, 28], [21, 26, 29], [21, 30], [31]] (by kernel_rfl) (by kernel_rfl)
    case ho =>
      refine owes2_cons (fun wx hox => ?_) ?_
      · skip
        have hk := HK.out.step hox
        obtain ⟨i0, i1, -, -⟩ := hk.c2 1 rfl
        obtain ⟨j0, j1, j2, -, -, -⟩ := hk.c3 0 rfl
        skip
        clear hk
        refine withs_plain rfl ?_
        simp only [withs, List.getElem?_cons_zero, List.getElem?_cons_succ, Option.bind, Option.getD]
        repeat (first | (with_reducible refine all_isV ?_) | (with_reducible refine all_isRD ?_; intro sx Ax kx cx hvx hwx) | (with_reducible refine all_isRN ?_; intro Ax kx cx hvx) | (with_reducible refine all_isD ?_; intro sx Ax kx cx hvx hwx))
        go_simp
        (first | exact ⟨Only.refl _ _, isV.self _ _⟩ | exact isV.self _ _)
      refine owes2_cons (fun wx hox => ?_) ?_
      · skip
        have hk := HK.out.step hox
        obtain ⟨i0, i1, -, -⟩ := hk.c2 1 rfl
        obtain ⟨j0, j1, j2, -, -, -⟩ := hk.c3 0 rfl
        skip
        clear hk
        refine withs_plain rfl ?_
        simp only [withs, List.getElem?_cons_zero, List.getElem?_cons_succ, Option.bind, Option.getD]
        repeat (first | (with_reducible refine all_isV ?_) | (with_reducible refine all_isRD ?_; intro sx Ax kx cx hvx hwx) | (with_reducible refine all_isRN ?_; intro Ax kx cx hvx) | (with_reducible refine all_isD ?_; intro sx Ax kx cx hvx hwx))
        go_simp
        (with_reducible exact grow_rd (rref_w (Lib.hid (HI.out.only hox))))
      refine owes2_cons (fun wx hox => ?_) ?_
      · skip
        have hk := HK.out.step hox
        obtain ⟨i0, i1, -, -⟩ := hk.c2 1 rfl
        obtain ⟨j0, j1, j2, -, -, -⟩ := hk.c3 0 rfl
        skip
        clear hk
        refine withs_plain rfl ?_
        simp only [withs, List.getElem?_cons_zero, List.getElem?_cons_succ, Option.bind, Option.getD]
        repeat (first | (with_reducible refine all_isV ?_) | (with_reducible refine all_isRD ?_; intro sx Ax kx cx hvx hwx) | (with_reducible refine all_isRN ?_; intro Ax kx cx hvx) | (with_reducible refine all_isD ?_; intro sx Ax kx cx hvx hwx))
        go_simp
        (first | exact ⟨Only.refl _ _, isV.self _ _⟩ | exact isV.self _ _)
      refine owes2_cons (fun wx hox => ?_) ?_
      · skip
        have hk := HK.out.step hox
        obtain ⟨i0, i1, -, -⟩ := hk.c2 1 rfl
        obtain ⟨j0, j1, j2, -, -, -⟩ := hk.c3 0 rfl
        skip
        clear hk
        refine withs_plain rfl ?_
        simp only [withs, List.getElem?_cons_zero, List.getElem?_cons_succ, Option.bind, Option.getD]
        repeat (first | (with_reducible refine all_isV ?_) | (with_reducible refine all_isRD ?_; intro sx Ax kx cx hvx hwx) | (with_reducible refine all_isRN ?_; intro Ax kx cx hvx) | (with_reducible refine all_isD ?_; intro sx Ax kx cx hvx hwx))
        go_simp
        (with_reducible exact grow_of (rsame_d (RD.of (by assumption) (by assumption)) (Lib.hid (HB2.out.only hox)) HCan HBd HBd2 (by omega) HEq.out))
      refine owes2_cons (fun wx hox => ?_) ?_
      · skip
        have hk := HK.out.step hox
        obtain ⟨i0, i1, -, -⟩ := hk.c2 1 rfl
        obtain ⟨j0, j1, j2, -, -, -⟩ := hk.c3 0 rfl
        skip
        clear hk
        refine withs_plain rfl ?_
        simp only [withs, List.getElem?_cons_zero, List.getElem?_cons_succ, Option.bind, Option.getD]
        repeat (first | (with_reducible refine all_isV ?_) | (with_reducible refine all_isRD ?_; intro sx Ax kx cx hvx hwx) | (with_reducible refine all_isRN ?_; intro Ax kx cx hvx) | (with_reducible refine all_isD ?_; intro sx Ax kx cx hvx hwx))
        go_simp
        (first | exact ⟨Only.refl _ _, isV.self _ _⟩ | exact isV.self _ _)
      refine owes2_cons (fun wx hox => ?_) ?_
      · skip
        have hk := HK.out.step hox
        obtain ⟨i0, i1, -, -⟩ := hk.c2 1 rfl
        obtain ⟨j0, j1, j2, -, -, -⟩ := hk.c3 0 rfl
        skip
        clear hk
        refine withs_guard rfl rfl ?_
        simp only [withs, List.getElem?_cons_zero, List.getElem?_cons_succ, Option.bind, Option.getD]
        repeat (first | (with_reducible refine all_isV ?_) | (with_reducible refine all_isRD ?_; intro sx Ax kx cx hvx hwx) | (with_reducible refine all_isRN ?_; intro Ax kx cx hvx) | (with_reducible refine all_isD ?_; intro sx Ax kx cx hvx hwx))
        refine ⟨by kernel_rfl, ?_⟩
        go_simp
        (first | exact ⟨Only.refl _ _, isV.self _ _⟩ | exact isV.self _ _)
      refine owes2_cons (fun wx hox => ?_) ?_
      · skip
        have hk := HK.out.step hox
        obtain ⟨i0, i1, -, -⟩ := hk.c2 1 rfl
        obtain ⟨j0, j1, j2, -, -, -⟩ := hk.c3 0 rfl
        skip
        clear hk
        refine withs_guard rfl rfl ?_
        simp only [withs, List.getElem?_cons_zero, List.getElem?_cons_succ, Option.bind, Option.getD]
        repeat (first | (with_reducible refine all_isV ?_) | (with_reducible refine all_isRD ?_; intro sx Ax kx cx hvx hwx) | (with_reducible refine all_isRN ?_; intro Ax kx cx hvx) | (with_reducible refine all_isD ?_; intro sx Ax kx cx hvx hwx))
        refine ⟨by kernel_rfl, ?_⟩
        go_simp
        (first | exact ⟨Only.refl _ _, isV.self _ _⟩ | exact isV.self _ _)
      refine owes2_cons (fun wx hox => ?_) ?_
      · skip
        have hk := HK.out.step hox
        obtain ⟨i0, i1, -, -⟩ := hk.c2 1 rfl
        obtain ⟨j0, j1, j2, -, -, -⟩ := hk.c3 0 rfl
        skip
        clear hk
        refine withs_guard rfl rfl ?_
        simp only [withs, List.getElem?_cons_zero, List.getElem?_cons_succ, Option.bind, Option.getD]
        repeat (first | (with_reducible refine all_isV ?_) | (with_reducible refine all_isRD ?_; intro sx Ax kx cx hvx hwx) | (with_reducible refine all_isRN ?_; intro Ax kx cx hvx) | (with_reducible refine all_isD ?_; intro sx Ax kx cx hvx hwx))
        refine ⟨by kernel_rfl, ?_⟩
        go_simp
        (first | exact ⟨Only.refl _ _, isV.self _ _⟩ | exact isV.self _ _)
      refine owes2_cons (fun wx hox => ?_) ?_
      · skip
        have hk := HK.out.step hox
        obtain ⟨i0, i1, -, -⟩ := hk.c2 1 rfl
        obtain ⟨j0, j1, j2, -, -, -⟩ := hk.c3 0 rfl
        skip
        clear hk
        refine withs_guard rfl rfl ?_
        simp only [withs, List.getElem?_cons_zero, List.getElem?_cons_succ, Option.bind, Option.getD]
        repeat (first | (with_reducible refine all_isV ?_) | (with_reducible refine all_isRD ?_; intro sx Ax kx cx hvx hwx) | (with_reducible refine all_isRN ?_; intro Ax kx cx hvx) | (with_reducible refine all_isD ?_; intro sx Ax kx cx hvx hwx))
        refine ⟨by kernel_rfl, ?_⟩
        go_simp
        (first | exact ⟨Only.refl _ _, isV.self _ _⟩ | exact isV.self _ _)
      refine owes2_cons (fun wx hox => ?_) ?_
      · skip
        have hk := HK.out.step hox
        obtain ⟨i0, i1, -, -⟩ := hk.c2 1 rfl
        obtain ⟨j0, j1, j2, -, -, -⟩ := hk.c3 0 rfl
        skip
        clear hk
        refine withs_guard rfl rfl ?_
        simp only [withs, List.getElem?_cons_zero, List.getElem?_cons_succ, Option.bind, Option.getD]
        repeat (first | (with_reducible refine all_isV ?_) | (with_reducible refine all_isRD ?_; intro sx Ax kx cx hvx hwx) | (with_reducible refine all_isRN ?_; intro Ax kx cx hvx) | (with_reducible refine all_isD ?_; intro sx Ax kx cx hvx hwx))
        refine ⟨by kernel_rfl, ?_⟩
        go_simp
        (first | exact ⟨Only.refl _ _, isV.self _ _⟩ | exact isV.self _ _)
      refine owes2_cons (fun wx hox => ?_) ?_
      · refine withs_guardN true rfl rfl rfl ?_
        simp only [withs, List.getElem?_cons_zero, List.getElem?_cons_succ, Option.bind, Option.getD]
        repeat (first | (with_reducible refine all_isV ?_) | (with_reducible refine all_isRD ?_; intro sx Ax kx cx hvx hwx) | (with_reducible refine all_isRN ?_; intro Ax kx cx hvx) | (with_reducible refine all_isD ?_; intro sx Ax kx cx hvx hwx))
        exact ⟨by kernel_rfl, isV.self _ _⟩
      refine owes2_cons (fun wx hox => ?_) ?_
      · refine withs_guardN true rfl rfl rfl ?_
        simp only [withs, List.getElem?_cons_zero, List.getElem?_cons_succ, Option.bind, Option.getD]
        repeat (first | (with_reducible refine all_isV ?_) | (with_reducible refine all_isRD ?_; intro sx Ax kx cx hvx hwx) | (with_reducible refine all_isRN ?_; intro Ax kx cx hvx) | (with_reducible refine all_isD ?_; intro sx Ax kx cx hvx hwx))
        exact ⟨by kernel_rfl, isV.self _ _⟩
      refine owes2_cons (fun wx hox => ?_) ?_
      · refine withs_guardN true rfl rfl rfl ?_
        simp only [withs, List.getElem?_cons_zero, List.getElem?_cons_succ, Option.bind, Option.getD]
        repeat (first | (with_reducible refine all_isV ?_) | (with_reducible refine all_isRD ?_; intro sx Ax kx cx hvx hwx) | (with_reducible refine all_isRN ?_; intro Ax kx cx hvx) | (with_reducible refine all_isD ?_; intro sx Ax kx cx hvx hwx))
        exact ⟨by kernel_rfl, isV.self _ _⟩
      refine owes2_cons (fun wx hox => ?_) ?_
      · refine withs_guardN true rfl rfl rfl ?_
        simp only [withs, List.getElem?_cons_zero, List.getElem?_cons_succ, Option.bind, Option.getD]
        repeat (first | (with_reducible refine all_isV ?_) | (with_reducible refine all_isRD ?_; intro sx Ax kx cx hvx hwx) | (with_reducible refine all_isRN ?_; intro Ax kx cx hvx) | (with_reducible refine all_isD ?_; intro sx Ax kx cx hvx hwx))
        exact ⟨by kernel_rfl, isV.self _ _⟩
      refine owes2_cons (fun wx hox => ?_) ?_
      · refine withs_guardN true rfl rfl rfl ?_
        simp only [withs, List.getElem?_cons_zero, List.getElem?_cons_succ, Option.bind, Option.getD]
        repeat (first | (with_reducible refine all_isV ?_) | (with_reducible refine all_isRD ?_; intro sx Ax kx cx hvx hwx) | (with_reducible refine all_isRN ?_; intro Ax kx cx hvx) | (with_reducible refine all_isD ?_; intro sx Ax kx cx hvx hwx))
        exact ⟨by kernel_rfl, isV.self _ _⟩
      refine owes2_cons (fun wx hox => ?_) ?_
      · refine withs_guardN true rfl rfl rfl ?_
        simp only [withs, List.getElem?_cons_zero, List.getElem?_cons_succ, Option.bind, Option.getD]
        repeat (first | (with_reducible refine all_isV ?_) | (with_reducible refine all_isRD ?_; intro sx Ax kx cx hvx hwx) | (with_reducible refine all_isRN ?_; intro Ax kx cx hvx) | (with_reducible refine all_isD ?_; intro sx Ax kx cx hvx hwx))
        exact ⟨by kernel_rfl, isV.self _ _⟩
      refine owes2_cons (fun wx hox => ?_) ?_
      · refine withs_guardN true rfl rfl rfl ?_
        simp only [withs, List.getElem?_cons_zero, List.getElem?_cons_succ, Option.bind, Option.getD]
        repeat (first | (with_reducible refine all_isV ?_) | (with_reducible refine all_isRD ?_; intro sx Ax kx cx hvx hwx) | (with_reducible refine all_isRN ?_; intro Ax kx cx hvx) | (with_reducible refine all_isD ?_; intro sx Ax kx cx hvx hwx))
        exact ⟨by kernel_rfl, isV.self _ _⟩
      refine owes2_cons (fun wx hox => ?_) ?_
      · refine withs_guardN true rfl rfl rfl ?_
        simp only [withs, List.getElem?_cons_zero, List.getElem?_cons_succ, Option.bind, Option.getD]
        repeat (first | (with_reducible refine all_isV ?_) | (with_reducible refine all_isRD ?_; intro sx Ax kx cx hvx hwx) | (with_reducible refine all_isRN ?_; intro Ax kx cx hvx) | (with_reducible refine all_isD ?_; intro sx Ax kx cx hvx hwx))
        exact ⟨by kernel_rfl, isV.self _ _⟩
      refine owes2_cons (fun wx hox => ?_) ?_
      · refine withs_guardN true rfl rfl rfl ?_
        simp only [withs, List.getElem?_cons_zero, List.getElem?_cons_succ, Option.bind, Option.getD]
        repeat (first | (with_reducible refine all_isV ?_) | (with_reducible refine all_isRD ?_; intro sx Ax kx cx hvx hwx) | (with_reducible refine all_isRN ?_; intro Ax kx cx hvx) | (with_reducible refine all_isD ?_; intro sx Ax kx cx hvx hwx))
        exact ⟨by kernel_rfl, isV.self _ _⟩
      refine owes2_cons (fun wx hox => ?_) ?_
      · skip
        have hk := HK.out.step hox
        obtain ⟨i0, i1, -, -⟩ := hk.c2 1 rfl
        obtain ⟨j0, j1, j2, -, -, -⟩ := hk.c3 0 rfl
        skip
        clear hk
        refine withs_guard rfl rfl ?_
        simp only [withs, List.getElem?_cons_zero, List.getElem?_cons_succ, Option.bind, Option.getD]
        repeat (first | (with_reducible refine all_isV ?_) | (with_reducible refine all_isRD ?_; intro sx Ax kx cx hvx hwx) | (with_reducible refine all_isRN ?_; intro Ax kx cx hvx) | (with_reducible refine all_isD ?_; intro sx Ax kx cx hvx hwx))
        refine ⟨by kernel_rfl, ?_⟩
        go_simp
        (first | exact ⟨Only.refl _ _, isV.self _ _⟩ | exact isV.self _ _)
      refine owes2_cons (fun wx hox => ?_) ?_
      · skip
        have hk := HK.out.step hox
        obtain ⟨i0, i1, -, -⟩ := hk.c2 1 rfl
        obtain ⟨j0, j1, j2, -, -, -⟩ := hk.c3 0 rfl
        skip
        clear hk
        refine withs_plain rfl ?_
        simp only [withs, List.getElem?_cons_zero, List.getElem?_cons_succ, Option.bind, Option.getD]
        repeat (first | (with_reducible refine all_isV ?_) | (with_reducible refine all_isRD ?_; intro sx Ax kx cx hvx hwx) | (with_reducible refine all_isRN ?_; intro Ax kx cx hvx) | (with_reducible refine all_isD ?_; intro sx Ax kx cx hvx hwx))
        go_simp
        (first | exact ⟨Only.refl _ _, isV.self _ _⟩ | exact isV.self _ _)
      refine owes2_cons (fun wx hox => ?_) ?_
      · skip
        have hk := HK.out.step hox
        obtain ⟨i0, i1, -, -⟩ := hk.c2 1 rfl
        obtain ⟨j0, j1, j2, -, -, -⟩ := hk.c3 0 rfl
        skip
        clear hk
        refine withs_plain rfl ?_
        simp only [withs, List.getElem?_cons_zero, List.getElem?_cons_succ, Option.bind, Option.getD]
        repeat (first | (with_reducible refine all_isV ?_) | (with_reducible refine all_isRD ?_; intro sx Ax kx cx hvx hwx) | (with_reducible refine all_isRN ?_; intro Ax kx cx hvx) | (with_reducible refine all_isD ?_; intro sx Ax kx cx hvx hwx))
        go_simp
        (first | exact ⟨Only.refl _ _, isV.self _ _⟩ | exact isV.self _ _)
      refine owes2_cons (fun wx hox => ?_) ?_
      · skip
        have hk := HK.out.step hox
        obtain ⟨i0, i1, -, -⟩ := hk.c2 1 rfl
        obtain ⟨j0, j1, j2, -, -, -⟩ := hk.c3 0 rfl
        skip
        clear hk
        refine withs_guard rfl rfl ?_
        simp only [withs, List.getElem?_cons_zero, List.getElem?_cons_succ, Option.bind, Option.getD]
        repeat (first | (with_reducible refine all_isV ?_) | (with_reducible refine all_isRD ?_; intro sx Ax kx cx hvx hwx) | (with_reducible refine all_isRN ?_; intro Ax kx cx hvx) | (with_reducible refine all_isD ?_; intro sx Ax kx cx hvx hwx))
        refine ⟨by kernel_rfl, ?_⟩
        go_simp
        (first | exact ⟨Only.refl _ _, isV.self _ _⟩ | exact isV.self _ _)
      refine owes2_cons (fun wx hox => ?_) ?_
      · skip
        have hk := HK.out.step hox
        obtain ⟨i0, i1, -, -⟩ := hk.c2 1 rfl
        obtain ⟨j0, j1, j2, -, -, -⟩ := hk.c3 0 rfl
        skip
        clear hk
        refine withs_guard rfl rfl ?_
        simp only [withs, List.getElem?_cons_zero, List.getElem?_cons_succ, Option.bind, Option.getD]
        repeat (first | (with_reducible refine all_isV ?_) | (with_reducible refine all_isRD ?_; intro sx Ax kx cx hvx hwx) | (with_reducible refine all_isRN ?_; intro Ax kx cx hvx) | (with_reducible refine all_isD ?_; intro sx Ax kx cx hvx hwx))
        refine ⟨by kernel_rfl, ?_⟩
        go_simp
        (first | exact ⟨Only.refl _ _, isV.self _ _⟩ | exact isV.self _ _)
      refine owes2_cons (fun wx hox => ?_) ?_
      · skip
        have hk := HK.out.step hox
        obtain ⟨i0, i1, -, -⟩ := hk.c2 1 rfl
        obtain ⟨j0, j1, j2, -, -, -⟩ := hk.c3 0 rfl
        skip
        clear hk
        refine withs_guard rfl rfl ?_
        simp only [withs, List.getElem?_cons_zero, List.getElem?_cons_succ, Option.bind, Option.getD]
        repeat (first | (with_reducible refine all_isV ?_) | (with_reducible refine all_isRD ?_; intro sx Ax kx cx hvx hwx) | (with_reducible refine all_isRN ?_; intro Ax kx cx hvx) | (with_reducible refine all_isD ?_; intro sx Ax kx cx hvx hwx))
        refine ⟨by kernel_rfl, ?_⟩
        go_simp
        (first | exact ⟨Only.refl _ _, isV.self _ _⟩ | exact isV.self _ _)
      refine owes2_cons (fun wx hox => ?_) ?_
      · skip
        have hk := HK.out.step hox
        obtain ⟨i0, i1, -, -⟩ := hk.c2 1 rfl
        obtain ⟨j0, j1, j2, -, -, -⟩ := hk.c3 0 rfl
        skip
        clear hk
        refine withs_guard rfl rfl ?_
        simp only [withs, List.getElem?_cons_zero, List.getElem?_cons_succ, Option.bind, Option.getD]
        repeat (first | (with_reducible refine all_isV ?_) | (with_reducible refine all_isRD ?_; intro sx Ax kx cx hvx hwx) | (with_reducible refine all_isRN ?_; intro Ax kx cx hvx) | (with_reducible refine all_isD ?_; intro sx Ax kx cx hvx hwx))
        refine ⟨by kernel_rfl, ?_⟩
        go_simp
        (first | exact ⟨Only.refl _ _, isV.self _ _⟩ | exact isV.self _ _)
      refine owes2_cons (fun wx hox => ?_) ?_
      · skip
        have hk := HK.out.step hox
        obtain ⟨i0, i1, -, -⟩ := hk.c2 1 rfl
        obtain ⟨j0, j1, j2, -, -, -⟩ := hk.c3 0 rfl
        skip
        clear hk
        refine withs_guard rfl rfl ?_
        simp only [withs, List.getElem?_cons_zero, List.getElem?_cons_succ, Option.bind, Option.getD]
        repeat (first | (with_reducible refine all_isV ?_) | (with_reducible refine all_isRD ?_; intro sx Ax kx cx hvx hwx) | (with_reducible refine all_isRN ?_; intro Ax kx cx hvx) | (with_reducible refine all_isD ?_; intro sx Ax kx cx hvx hwx))
        refine ⟨by kernel_rfl, ?_⟩
        go_simp
        (first | exact ⟨Only.refl _ _, isV.self _ _⟩ | exact isV.self _ _)
      refine owes2_cons (fun wx hox => ?_) ?_
      · skip
        have hk := HK.out.step hox
        obtain ⟨i0, i1, -, -⟩ := hk.c2 1 rfl
        obtain ⟨j0, j1, j2, -, -, -⟩ := hk.c3 0 rfl
        skip
        clear hk
        refine withs_guard rfl rfl ?_
        simp only [withs, List.getElem?_cons_zero, List.getElem?_cons_succ, Option.bind, Option.getD]
        repeat (first | (with_reducible refine all_isV ?_) | (with_reducible refine all_isRD ?_; intro sx Ax kx cx hvx hwx) | (with_reducible refine all_isRN ?_; intro Ax kx cx hvx) | (with_reducible refine all_isD ?_; intro sx Ax kx cx hvx hwx))
        refine ⟨by kernel_rfl, ?_⟩
        go_simp
        (first | exact ⟨Only.refl _ _, isV.self _ _⟩ | exact isV.self _ _)
      refine owes2_cons (fun wx hox => ?_) ?_
      · skip
        have hk := HK.out.step hox
        obtain ⟨i0, i1, -, -⟩ := hk.c2 1 rfl
        obtain ⟨j0, j1, j2, -, -, -⟩ := hk.c3 0 rfl
        skip
        clear hk
        refine withs_guard rfl rfl ?_
        simp only [withs, List.getElem?_cons_zero, List.getElem?_cons_succ, Option.bind, Option.getD]
        repeat (first | (with_reducible refine all_isV ?_) | (with_reducible refine all_isRD ?_; intro sx Ax kx cx hvx hwx) | (with_reducible refine all_isRN ?_; intro Ax kx cx hvx) | (with_reducible refine all_isD ?_; intro sx Ax kx cx hvx hwx))
        refine ⟨by kernel_rfl, ?_⟩
        go_simp
        (first | exact ⟨Only.refl _ _, isV.self _ _⟩ | exact isV.self _ _)
      refine owes2_cons (fun wx hox => ?_) ?_
      · skip
        have hk := HK.out.step hox
        obtain ⟨i0, i1, -, -⟩ := hk.c2 1 rfl
        obtain ⟨j0, j1, j2, -, -, -⟩ := hk.c3 0 rfl
        skip
        clear hk
        refine withs_guard rfl rfl ?_
        simp only [withs, List.getElem?_cons_zero, List.getElem?_cons_succ, Option.bind, Option.getD]
        repeat (first | (with_reducible refine all_isV ?_) | (with_reducible refine all_isRD ?_; intro sx Ax kx cx hvx hwx) | (with_reducible refine all_isRN ?_; intro Ax kx cx hvx) | (with_reducible refine all_isD ?_; intro sx Ax kx cx hvx hwx))
        refine ⟨by kernel_rfl, ?_⟩
        go_simp
        (first | exact ⟨Only.refl _ _, isV.self _ _⟩ | exact isV.self _ _)
      refine owes2_cons (fun wx hox => ?_) ?_
      · skip
        have hk := HK.out.step hox
        obtain ⟨i0, i1, -, -⟩ := hk.c2 1 rfl
        obtain ⟨j0, j1, j2, -, -, -⟩ := hk.c3 0 rfl
        skip
        clear hk
        refine withs_guard rfl rfl ?_
        simp only [withs, List.getElem?_cons_zero, List.getElem?_cons_succ, Option.bind, Option.getD]
        repeat (first | (with_reducible refine all_isV ?_) | (with_reducible refine all_isRD ?_; intro sx Ax kx cx hvx hwx) | (with_reducible refine all_isRN ?_; intro Ax kx cx hvx) | (with_reducible refine all_isD ?_; intro sx Ax kx cx hvx hwx))
        refine ⟨by kernel_rfl, ?_⟩
        go_simp
        (first | exact ⟨Only.refl _ _, isV.self _ _⟩ | exact isV.self _ _)
      refine owes2_cons (fun wx hox => ?_) ?_
      · skip
        have hk := HK.out.step hox
        obtain ⟨i0, i1, -, -⟩ := hk.c2 1 rfl
        obtain ⟨j0, j1, j2, -, -, -⟩ := hk.c3 0 rfl
        skip
        clear hk
        refine withs_plain rfl ?_
        simp only [withs, List.getElem?_cons_zero, List.getElem?_cons_succ, Option.bind, Option.getD]
        repeat (first | (with_reducible refine all_isV ?_) | (with_reducible refine all_isRD ?_; intro sx Ax kx cx hvx hwx) | (with_reducible refine all_isRN ?_; intro Ax kx cx hvx) | (with_reducible refine all_isD ?_; intro sx Ax kx cx hvx hwx))
        go_simp
        (first | exact ⟨Only.refl _ _, isV.self _ _⟩ | exact isV.self _ _)
      refine owes2_cons (fun wx hox => ?_) ?_
      · skip
        have hk := HK.out.step hox
        obtain ⟨i0, i1, -, -⟩ := hk.c2 1 rfl
        obtain ⟨j0, j1, j2, -, -, -⟩ := hk.c3 0 rfl
        skip
        clear hk
        refine withs_plain rfl ?_
        simp only [withs, List.getElem?_cons_zero, List.getElem?_cons_succ, Option.bind, Option.getD]
        repeat (first | (with_reducible refine all_isV ?_) | (with_reducible refine all_isRD ?_; intro sx Ax kx cx hvx hwx) | (with_reducible refine all_isRN ?_; intro Ax kx cx hvx) | (with_reducible refine all_isD ?_; intro sx Ax kx cx hvx hwx))
        go_simp
        (first | exact ⟨Only.refl _ _, isV.self _ _⟩ | exact isV.self _ _)
      exact owes2_nil
    case he =>
      intro wx hox
      refine withs_of (by simp only [List.length, List.range, List.range.loop]; exact rfl) ?_
      simp only [withs, List.getElem?_cons_zero, List.getElem?_cons_succ, Option.bind, Option.getD]
      repeat (first | (with_reducible refine all_isV ?_) | (with_reducible refine all_isRD ?_; intro sx Ax kx cx hvx hwx) | (with_reducible refine all_isRN ?_; intro Ax kx cx hvx) | (with_reducible refine all_isD ?_; intro sx Ax kx cx hvx hwx))
      go_simp
      go_wp2_with fail
      go_ret
      exact ⟨rfl, HK.out.only.nil_trans hox⟩
    case hl =>
      repeat (refine List.forall_mem_cons.2 ⟨?_, ?_⟩; first | exact isV.lasts _ | exact isRD.lasts _ | exact isRN.lasts _ | exact isD.lasts _ | exact isNV.lasts _ | exact isDV.lasts _ | exact isWV.lasts _ | exact isWC.lasts _ | exact isNR.lasts _ _ | exact isWR.lasts _ _ | exact isRow.lasts _ _ _ | exact isPtr.lasts _ _ _ | exact isRow1.lasts _)
      exact fun _ h => (by cases h)
  · obtain ⟨bl, ol, vl, rfl, hcell, hvl⟩ := last_limb hmag hc.out.2 (by omega)
    obtain ⟨k1, hk1⟩ : ∃ k1, k - 1 = k1 := ⟨_, rfl⟩
    rw [hk1] at hcell
    have e1 : (k : Int) - 1 = (k1 : Int) := by omega
    have e2 : (k1 : Int) < (k : Int) := by omega
    have e3 : (0 : Int) < (k : Int) := by omega
    have e6 : 0 < k := by omega
    have e5 : IntKind.i64.wrap (k1 : Int) = (k1 : Int) := wrap_i64 (by omega)
    have e4 : ((k : Int) == 0) = false := by rw [beq_eq_false_iff_ne]; omega
    clear hc hmag h0 hk1
    go_enter Tryd.func41, Tryd.ntmps41
    go_upto_region 1 with fail
    apply wp_region_typed2 (by kernel_rfl) [isV _, isRD (nrm z 0), isV _, isV _, isV _, isV _, isV _, isV _, isV _, isV _, isV _, isV _, isV _, isV _, isV _, isV _, isV _, isV _, isV _, isV _, isV _, isV _, isV _, isV _, isV _, isV _, isV _, isV undef, isV undef, isV undef, isV _, isV _, isV _] [[], [0], [], [1, 2], [3], [4], [4, 5], [4, 6], [4, 7], [4, 8], [9], [9, 10], [9], [9, 12], [9, 13], [9, 14], [9, 11, 15], [9, 16], [9, 17], [4, 9, 18], [4, 19], [20], [21], [21, 22], [21, 23], [21, 24], [21, 25], [26], [26, 27], [26, 28], [21, 26, 29], [21, 30], [31]] (by kernel_rfl) (by kernel_rfl)
    case ho =>
      refine owes2_cons (fun wx hox => ?_) ?_
      · skip
        have hk := HK.out.step hox
        obtain ⟨i0, i1, -, -⟩ := hk.c2 1 rfl
        obtain ⟨j0, j1, j2, -, -, -⟩ := hk.c3 0 rfl
        have hcl := hox.cell hcell (by simp)
        clear hk
        refine withs_plain rfl ?_
        simp only [withs, List.getElem?_cons_zero, List.getElem?_cons_succ, Option.bind, Option.getD]
        repeat (first | (with_reducible refine all_isV ?_) | (with_reducible refine all_isRD ?_; intro sx Ax kx cx hvx hwx) | (with_reducible refine all_isRN ?_; intro Ax kx cx hvx) | (with_reducible refine all_isD ?_; intro sx Ax kx cx hvx hwx))
        go_simp
        (first | exact ⟨Only.refl _ _, isV.self _ _⟩ | exact isV.self _ _)
      refine owes2_cons (fun wx hox => ?_) ?_
      · skip
        have hk := HK.out.step hox
        obtain ⟨i0, i1, -, -⟩ := hk.c2 1 rfl
        obtain ⟨j0, j1, j2, -, -, -⟩ := hk.c3 0 rfl
        have hcl := hox.cell hcell (by simp)
        clear hk
        refine withs_plain rfl ?_
        simp only [withs, List.getElem?_cons_zero, List.getElem?_cons_succ, Option.bind, Option.getD]
        repeat (first | (with_reducible refine all_isV ?_) | (with_reducible refine all_isRD ?_; intro sx Ax kx cx hvx hwx) | (with_reducible refine all_isRN ?_; intro Ax kx cx hvx) | (with_reducible refine all_isD ?_; intro sx Ax kx cx hvx hwx))
        go_simp
        (with_reducible exact grow_rd (rref_w (Lib.hid (HI.out.only hox))))
      refine owes2_cons (fun wx hox => ?_) ?_
      · skip
        have hk := HK.out.step hox
        obtain ⟨i0, i1, -, -⟩ := hk.c2 1 rfl
        obtain ⟨j0, j1, j2, -, -, -⟩ := hk.c3 0 rfl
        have hcl := hox.cell hcell (by simp)
        clear hk
        refine withs_plain rfl ?_
        simp only [withs, List.getElem?_cons_zero, List.getElem?_cons_succ, Option.bind, Option.getD]
        repeat (first | (with_reducible refine all_isV ?_) | (with_reducible refine all_isRD ?_; intro sx Ax kx cx hvx hwx) | (with_reducible refine all_isRN ?_; intro Ax kx cx hvx) | (with_reducible refine all_isD ?_; intro sx Ax kx cx hvx hwx))
        go_simp
        (first | exact ⟨Only.refl _ _, isV.self _ _⟩ | exact isV.self _ _)
      refine owes2_cons (fun wx hox => ?_) ?_
      · skip
        have hk := HK.out.step hox
        obtain ⟨i0, i1, -, -⟩ := hk.c2 1 rfl
        obtain ⟨j0, j1, j2, -, -, -⟩ := hk.c3 0 rfl
        have hcl := hox.cell hcell (by simp)
        clear hk
        refine withs_plain rfl ?_
        simp only [withs, List.getElem?_cons_zero, List.getElem?_cons_succ, Option.bind, Option.getD]
        repeat (first | (with_reducible refine all_isV ?_) | (with_reducible refine all_isRD ?_; intro sx Ax kx cx hvx hwx) | (with_reducible refine all_isRN ?_; intro Ax kx cx hvx) | (with_reducible refine all_isD ?_; intro sx Ax kx cx hvx hwx))
        go_simp
        (with_reducible exact grow_of (rsame_d (RD.of (by assumption) (by assumption)) (Lib.hid (HB2.out.only hox)) HCan HBd HBd2 (by omega) HEq.out))
      refine owes2_cons (fun wx hox => ?_) ?_
      · skip
        have hk := HK.out.step hox
        obtain ⟨i0, i1, -, -⟩ := hk.c2 1 rfl
        obtain ⟨j0, j1, j2, -, -, -⟩ := hk.c3 0 rfl
        have hcl := hox.cell hcell (by simp)
        clear hk
        refine withs_plain rfl ?_
        simp only [withs, List.getElem?_cons_zero, List.getElem?_cons_succ, Option.bind, Option.getD]
        repeat (first | (with_reducible refine all_isV ?_) | (with_reducible refine all_isRD ?_; intro sx Ax kx cx hvx hwx) | (with_reducible refine all_isRN ?_; intro Ax kx cx hvx) | (with_reducible refine all_isD ?_; intro sx Ax kx cx hvx hwx))
        go_simp
        (first | exact ⟨Only.refl _ _, isV.self _ _⟩ | exact isV.self _ _)
      refine owes2_cons (fun wx hox => ?_) ?_
      · skip
        have hk := HK.out.step hox
        obtain ⟨i0, i1, -, -⟩ := hk.c2 1 rfl
        obtain ⟨j0, j1, j2, -, -, -⟩ := hk.c3 0 rfl
        have hcl := hox.cell hcell (by simp)
        clear hk
        refine withs_guard rfl rfl ?_
        simp only [withs, List.getElem?_cons_zero, List.getElem?_cons_succ, Option.bind, Option.getD]
        repeat (first | (with_reducible refine all_isV ?_) | (with_reducible refine all_isRD ?_; intro sx Ax kx cx hvx hwx) | (with_reducible refine all_isRN ?_; intro Ax kx cx hvx) | (with_reducible refine all_isD ?_; intro sx Ax kx cx hvx hwx))
        refine ⟨by kernel_rfl, ?_⟩
        go_simp
        (first | exact ⟨Only.refl _ _, isV.self _ _⟩ | exact isV.self _ _)
      refine owes2_cons (fun wx hox => ?_) ?_
      · skip
        have hk := HK.out.step hox
        obtain ⟨i0, i1, -, -⟩ := hk.c2 1 rfl
        obtain ⟨j0, j1, j2, -, -, -⟩ := hk.c3 0 rfl
        have hcl := hox.cell hcell (by simp)
        clear hk
        refine withs_guard rfl rfl ?_
        simp only [withs, List.getElem?_cons_zero, List.getElem?_cons_succ, Option.bind, Option.getD]
        repeat (first | (with_reducible refine all_isV ?_) | (with_reducible refine all_isRD ?_; intro sx Ax kx cx hvx hwx) | (with_reducible refine all_isRN ?_; intro Ax kx cx hvx) | (with_reducible refine all_isD ?_; intro sx Ax kx cx hvx hwx))
        refine ⟨by kernel_rfl, ?_⟩
        go_simp
        (first | exact ⟨Only.refl _ _, isV.self _ _⟩ | exact isV.self _ _)
      refine owes2_cons (fun wx hox => ?_) ?_
      · skip
        have hk := HK.out.step hox
        obtain ⟨i0, i1, -, -⟩ := hk.c2 1 rfl
        obtain ⟨j0, j1, j2, -, -, -⟩ := hk.c3 0 rfl
        have hcl := hox.cell hcell (by simp)
        clear hk
        refine withs_guard rfl rfl ?_
        simp only [withs, List.getElem?_cons_zero, List.getElem?_cons_succ, Option.bind, Option.getD]
        repeat (first | (with_reducible refine all_isV ?_) | (with_reducible refine all_isRD ?_; intro sx Ax kx cx hvx hwx) | (with_reducible refine all_isRN ?_; intro Ax kx cx hvx) | (with_reducible refine all_isD ?_; intro sx Ax kx cx hvx hwx))
        refine ⟨by kernel_rfl, ?_⟩
        go_simp
        (first | exact ⟨Only.refl _ _, isV.self _ _⟩ | exact isV.self _ _)
      refine owes2_cons (fun wx hox => ?_) ?_
      · skip
        have hk := HK.out.step hox
        obtain ⟨i0, i1, -, -⟩ := hk.c2 1 rfl
        obtain ⟨j0, j1, j2, -, -, -⟩ := hk.c3 0 rfl
        have hcl := hox.cell hcell (by simp)
        clear hk
        refine withs_guard rfl rfl ?_
        simp only [withs, List.getElem?_cons_zero, List.getElem?_cons_succ, Option.bind, Option.getD]
        repeat (first | (with_reducible refine all_isV ?_) | (with_reducible refine all_isRD ?_; intro sx Ax kx cx hvx hwx) | (with_reducible refine all_isRN ?_; intro Ax kx cx hvx) | (with_reducible refine all_isD ?_; intro sx Ax kx cx hvx hwx))
        refine ⟨by kernel_rfl, ?_⟩
        go_simp
        (first | exact ⟨Only.refl _ _, isV.self _ _⟩ | exact isV.self _ _)
      refine owes2_cons (fun wx hox => ?_) ?_
      · skip
        have hk := HK.out.step hox
        obtain ⟨i0, i1, -, -⟩ := hk.c2 1 rfl
        obtain ⟨j0, j1, j2, -, -, -⟩ := hk.c3 0 rfl
        have hcl := hox.cell hcell (by simp)
        clear hk
        refine withs_guard rfl rfl ?_
        simp only [withs, List.getElem?_cons_zero, List.getElem?_cons_succ, Option.bind, Option.getD]
        repeat (first | (with_reducible refine all_isV ?_) | (with_reducible refine all_isRD ?_; intro sx Ax kx cx hvx hwx) | (with_reducible refine all_isRN ?_; intro Ax kx cx hvx) | (with_reducible refine all_isD ?_; intro sx Ax kx cx hvx hwx))
        refine ⟨by kernel_rfl, ?_⟩
        go_simp
        (first | exact ⟨Only.refl _ _, isV.self _ _⟩ | exact isV.self _ _)
      refine owes2_cons (fun wx hox => ?_) ?_
      · skip
        have hk := HK.out.step hox
        obtain ⟨i0, i1, -, -⟩ := hk.c2 1 rfl
        obtain ⟨j0, j1, j2, -, -, -⟩ := hk.c3 0 rfl
        have hcl := hox.cell hcell (by simp)
        clear hk
        refine withs_guard rfl rfl ?_
        simp only [withs, List.getElem?_cons_zero, List.getElem?_cons_succ, Option.bind, Option.getD]
        repeat (first | (with_reducible refine all_isV ?_) | (with_reducible refine all_isRD ?_; intro sx Ax kx cx hvx hwx) | (with_reducible refine all_isRN ?_; intro Ax kx cx hvx) | (with_reducible refine all_isD ?_; intro sx Ax kx cx hvx hwx))
        refine ⟨by kernel_rfl, ?_⟩
        go_simp
        (first | exact ⟨Only.refl _ _, isV.self _ _⟩ | exact isV.self _ _)
      refine owes2_cons (fun wx hox => ?_) ?_
      · skip
        have hk := HK.out.step hox
        obtain ⟨i0, i1, -, -⟩ := hk.c2 1 rfl
        obtain ⟨j0, j1, j2, -, -, -⟩ := hk.c3 0 rfl
        have hcl := hox.cell hcell (by simp)
        clear hk
        refine withs_guard rfl rfl ?_
        simp only [withs, List.getElem?_cons_zero, List.getElem?_cons_succ, Option.bind, Option.getD]
        repeat (first | (with_reducible refine all_isV ?_) | (with_reducible refine all_isRD ?_; intro sx Ax kx cx hvx hwx) | (with_reducible refine all_isRN ?_; intro Ax kx cx hvx) | (with_reducible refine all_isD ?_; intro sx Ax kx cx hvx hwx))
        refine ⟨by kernel_rfl, ?_⟩
        go_simp
        (first | exact ⟨Only.refl _ _, isV.self _ _⟩ | exact isV.self _ _)
      refine owes2_cons (fun wx hox => ?_) ?_
      · skip
        have hk := HK.out.step hox
        obtain ⟨i0, i1, -, -⟩ := hk.c2 1 rfl
        obtain ⟨j0, j1, j2, -, -, -⟩ := hk.c3 0 rfl
        have hcl := hox.cell hcell (by simp)
        clear hk
        refine withs_guard rfl rfl ?_
        simp only [withs, List.getElem?_cons_zero, List.getElem?_cons_succ, Option.bind, Option.getD]
        repeat (first | (with_reducible refine all_isV ?_) | (with_reducible refine all_isRD ?_; intro sx Ax kx cx hvx hwx) | (with_reducible refine all_isRN ?_; intro Ax kx cx hvx) | (with_reducible refine all_isD ?_; intro sx Ax kx cx hvx hwx))
        refine ⟨by kernel_rfl, ?_⟩
        go_simp
        (first | exact ⟨Only.refl _ _, isV.self _ _⟩ | exact isV.self _ _)
      refine owes2_cons (fun wx hox => ?_) ?_
      · skip
        have hk := HK.out.step hox
        obtain ⟨i0, i1, -, -⟩ := hk.c2 1 rfl
        obtain ⟨j0, j1, j2, -, -, -⟩ := hk.c3 0 rfl
        have hcl := hox.cell hcell (by simp)
        clear hk
        refine withs_guard rfl rfl ?_
        simp only [withs, List.getElem?_cons_zero, List.getElem?_cons_succ, Option.bind, Option.getD]
        repeat (first | (with_reducible refine all_isV ?_) | (with_reducible refine all_isRD ?_; intro sx Ax kx cx hvx hwx) | (with_reducible refine all_isRN ?_; intro Ax kx cx hvx) | (with_reducible refine all_isD ?_; intro sx Ax kx cx hvx hwx))
        refine ⟨by kernel_rfl, ?_⟩
        go_simp
        (first | exact ⟨Only.refl _ _, isV.self _ _⟩ | exact isV.self _ _)
      refine owes2_cons (fun wx hox => ?_) ?_
      · skip
        have hk := HK.out.step hox
        obtain ⟨i0, i1, -, -⟩ := hk.c2 1 rfl
        obtain ⟨j0, j1, j2, -, -, -⟩ := hk.c3 0 rfl
        have hcl := hox.cell hcell (by simp)
        clear hk
        refine withs_guard rfl rfl ?_
        simp only [withs, List.getElem?_cons_zero, List.getElem?_cons_succ, Option.bind, Option.getD]
        repeat (first | (with_reducible refine all_isV ?_) | (with_reducible refine all_isRD ?_; intro sx Ax kx cx hvx hwx) | (with_reducible refine all_isRN ?_; intro Ax kx cx hvx) | (with_reducible refine all_isD ?_; intro sx Ax kx cx hvx hwx))
        refine ⟨by kernel_rfl, ?_⟩
        go_simp
        (first | exact ⟨Only.refl _ _, isV.self _ _⟩ | exact isV.self _ _)
      refine owes2_cons (fun wx hox => ?_) ?_
      · skip
        have hk := HK.out.step hox
        obtain ⟨i0, i1, -, -⟩ := hk.c2 1 rfl
        obtain ⟨j0, j1, j2, -, -, -⟩ := hk.c3 0 rfl
        have hcl := hox.cell hcell (by simp)
        clear hk
        refine withs_guard rfl rfl ?_
        simp only [withs, List.getElem?_cons_zero, List.getElem?_cons_succ, Option.bind, Option.getD]
        repeat (first | (with_reducible refine all_isV ?_) | (with_reducible refine all_isRD ?_; intro sx Ax kx cx hvx hwx) | (with_reducible refine all_isRN ?_; intro Ax kx cx hvx) | (with_reducible refine all_isD ?_; intro sx Ax kx cx hvx hwx))
        refine ⟨by kernel_rfl, ?_⟩
        go_simp
        (first | exact ⟨Only.refl _ _, isV.self _ _⟩ | exact isV.self _ _)
      refine owes2_cons (fun wx hox => ?_) ?_
      · skip
        have hk := HK.out.step hox
        obtain ⟨i0, i1, -, -⟩ := hk.c2 1 rfl
        obtain ⟨j0, j1, j2, -, -, -⟩ := hk.c3 0 rfl
        have hcl := hox.cell hcell (by simp)
        clear hk
        refine withs_guard rfl rfl ?_
        simp only [withs, List.getElem?_cons_zero, List.getElem?_cons_succ, Option.bind, Option.getD]
        repeat (first | (with_reducible refine all_isV ?_) | (with_reducible refine all_isRD ?_; intro sx Ax kx cx hvx hwx) | (with_reducible refine all_isRN ?_; intro Ax kx cx hvx) | (with_reducible refine all_isD ?_; intro sx Ax kx cx hvx hwx))
        refine ⟨by kernel_rfl, ?_⟩
        go_simp
        (first | exact ⟨Only.refl _ _, isV.self _ _⟩ | exact isV.self _ _)
      refine owes2_cons (fun wx hox => ?_) ?_
      · skip
        have hk := HK.out.step hox
        obtain ⟨i0, i1, -, -⟩ := hk.c2 1 rfl
        obtain ⟨j0, j1, j2, -, -, -⟩ := hk.c3 0 rfl
        have hcl := hox.cell hcell (by simp)
        clear hk
        refine withs_guard rfl rfl ?_
        simp only [withs, List.getElem?_cons_zero, List.getElem?_cons_succ, Option.bind, Option.getD]
        repeat (first | (with_reducible refine all_isV ?_) | (with_reducible refine all_isRD ?_; intro sx Ax kx cx hvx hwx) | (with_reducible refine all_isRN ?_; intro Ax kx cx hvx) | (with_reducible refine all_isD ?_; intro sx Ax kx cx hvx hwx))
        refine ⟨by kernel_rfl, ?_⟩
        go_simp
        (first | exact ⟨Only.refl _ _, isV.self _ _⟩ | exact isV.self _ _)
      refine owes2_cons (fun wx hox => ?_) ?_
      · skip
        have hk := HK.out.step hox
        obtain ⟨i0, i1, -, -⟩ := hk.c2 1 rfl
        obtain ⟨j0, j1, j2, -, -, -⟩ := hk.c3 0 rfl
        have hcl := hox.cell hcell (by simp)
        clear hk
        refine withs_guard rfl rfl ?_
        simp only [withs, List.getElem?_cons_zero, List.getElem?_cons_succ, Option.bind, Option.getD]
        repeat (first | (with_reducible refine all_isV ?_) | (with_reducible refine all_isRD ?_; intro sx Ax kx cx hvx hwx) | (with_reducible refine all_isRN ?_; intro Ax kx cx hvx) | (with_reducible refine all_isD ?_; intro sx Ax kx cx hvx hwx))
        refine ⟨by kernel_rfl, ?_⟩
        go_simp
        (first | exact ⟨Only.refl _ _, isV.self _ _⟩ | exact isV.self _ _)
      refine owes2_cons (fun wx hox => ?_) ?_
      · skip
        have hk := HK.out.step hox
        obtain ⟨i0, i1, -, -⟩ := hk.c2 1 rfl
        obtain ⟨j0, j1, j2, -, -, -⟩ := hk.c3 0 rfl
        have hcl := hox.cell hcell (by simp)
        clear hk
        refine withs_guard rfl rfl ?_
        simp only [withs, List.getElem?_cons_zero, List.getElem?_cons_succ, Option.bind, Option.getD]
        repeat (first | (with_reducible refine all_isV ?_) | (with_reducible refine all_isRD ?_; intro sx Ax kx cx hvx hwx) | (with_reducible refine all_isRN ?_; intro Ax kx cx hvx) | (with_reducible refine all_isD ?_; intro sx Ax kx cx hvx hwx))
        refine ⟨by kernel_rfl, ?_⟩
        go_simp
        (first | exact ⟨Only.refl _ _, isV.self _ _⟩ | exact isV.self _ _)
      refine owes2_cons (fun wx hox => ?_) ?_
      · skip
        have hk := HK.out.step hox
        obtain ⟨i0, i1, -, -⟩ := hk.c2 1 rfl
        obtain ⟨j0, j1, j2, -, -, -⟩ := hk.c3 0 rfl
        have hcl := hox.cell hcell (by simp)
        clear hk
        refine withs_plain rfl ?_
        simp only [withs, List.getElem?_cons_zero, List.getElem?_cons_succ, Option.bind, Option.getD]
        repeat (first | (with_reducible refine all_isV ?_) | (with_reducible refine all_isRD ?_; intro sx Ax kx cx hvx hwx) | (with_reducible refine all_isRN ?_; intro Ax kx cx hvx) | (with_reducible refine all_isD ?_; intro sx Ax kx cx hvx hwx))
        go_simp
        (first | exact ⟨Only.refl _ _, isV.self _ _⟩ | exact isV.self _ _)
      refine owes2_cons (fun wx hox => ?_) ?_
      · skip
        have hk := HK.out.step hox
        obtain ⟨i0, i1, -, -⟩ := hk.c2 1 rfl
        obtain ⟨j0, j1, j2, -, -, -⟩ := hk.c3 0 rfl
        have hcl := hox.cell hcell (by simp)
        clear hk
        refine withs_plain rfl ?_
        simp only [withs, List.getElem?_cons_zero, List.getElem?_cons_succ, Option.bind, Option.getD]
        repeat (first | (with_reducible refine all_isV ?_) | (with_reducible refine all_isRD ?_; intro sx Ax kx cx hvx hwx) | (with_reducible refine all_isRN ?_; intro Ax kx cx hvx) | (with_reducible refine all_isD ?_; intro sx Ax kx cx hvx hwx))
        go_simp
        (first | exact ⟨Only.refl _ _, isV.self _ _⟩ | exact isV.self _ _)
      refine owes2_cons (fun wx hox => ?_) ?_
      · skip
        have hk := HK.out.step hox
        obtain ⟨i0, i1, -, -⟩ := hk.c2 1 rfl
        obtain ⟨j0, j1, j2, -, -, -⟩ := hk.c3 0 rfl
        have hcl := hox.cell hcell (by simp)
        clear hk
        refine withs_guard rfl rfl ?_
        simp only [withs, List.getElem?_cons_zero, List.getElem?_cons_succ, Option.bind, Option.getD]
        repeat (first | (with_reducible refine all_isV ?_) | (with_reducible refine all_isRD ?_; intro sx Ax kx cx hvx hwx) | (with_reducible refine all_isRN ?_; intro Ax kx cx hvx) | (with_reducible refine all_isD ?_; intro sx Ax kx cx hvx hwx))
        refine ⟨by kernel_rfl, ?_⟩
        go_simp
        (first | exact ⟨Only.refl _ _, isV.self _ _⟩ | exact isV.self _ _)
      refine owes2_cons (fun wx hox => ?_) ?_
      · skip
        have hk := HK.out.step hox
        obtain ⟨i0, i1, -, -⟩ := hk.c2 1 rfl
        obtain ⟨j0, j1, j2, -, -, -⟩ := hk.c3 0 rfl
        have hcl := hox.cell hcell (by simp)
        clear hk
        refine withs_guard rfl rfl ?_
        simp only [withs, List.getElem?_cons_zero, List.getElem?_cons_succ, Option.bind, Option.getD]
        repeat (first | (with_reducible refine all_isV ?_) | (with_reducible refine all_isRD ?_; intro sx Ax kx cx hvx hwx) | (with_reducible refine all_isRN ?_; intro Ax kx cx hvx) | (with_reducible refine all_isD ?_; intro sx Ax kx cx hvx hwx))
        refine ⟨by kernel_rfl, ?_⟩
        go_simp
        (first | exact ⟨Only.refl _ _, isV.self _ _⟩ | exact isV.self _ _)
      refine owes2_cons (fun wx hox => ?_) ?_
      · skip
        have hk := HK.out.step hox
        obtain ⟨i0, i1, -, -⟩ := hk.c2 1 rfl
        obtain ⟨j0, j1, j2, -, -, -⟩ := hk.c3 0 rfl
        have hcl := hox.cell hcell (by simp)
        clear hk
        refine withs_guard rfl rfl ?_
        simp only [withs, List.getElem?_cons_zero, List.getElem?_cons_succ, Option.bind, Option.getD]
        repeat (first | (with_reducible refine all_isV ?_) | (with_reducible refine all_isRD ?_; intro sx Ax kx cx hvx hwx) | (with_reducible refine all_isRN ?_; intro Ax kx cx hvx) | (with_reducible refine all_isD ?_; intro sx Ax kx cx hvx hwx))
        refine ⟨by kernel_rfl, ?_⟩
        go_simp
        (first | exact ⟨Only.refl _ _, isV.self _ _⟩ | exact isV.self _ _)
      refine owes2_cons (fun wx hox => ?_) ?_
      · skip
        have hk := HK.out.step hox
        obtain ⟨i0, i1, -, -⟩ := hk.c2 1 rfl
        obtain ⟨j0, j1, j2, -, -, -⟩ := hk.c3 0 rfl
        have hcl := hox.cell hcell (by simp)
        clear hk
        refine withs_guard rfl rfl ?_
        simp only [withs, List.getElem?_cons_zero, List.getElem?_cons_succ, Option.bind, Option.getD]
        repeat (first | (with_reducible refine all_isV ?_) | (with_reducible refine all_isRD ?_; intro sx Ax kx cx hvx hwx) | (with_reducible refine all_isRN ?_; intro Ax kx cx hvx) | (with_reducible refine all_isD ?_; intro sx Ax kx cx hvx hwx))
        refine ⟨by kernel_rfl, ?_⟩
        go_simp
        (first | exact ⟨Only.refl _ _, isV.self _ _⟩ | exact isV.self _ _)
      refine owes2_cons (fun wx hox => ?_) ?_
      · skip
        have hk := HK.out.step hox
        obtain ⟨i0, i1, -, -⟩ := hk.c2 1 rfl
        obtain ⟨j0, j1, j2, -, -, -⟩ := hk.c3 0 rfl
        have hcl := hox.cell hcell (by simp)
        clear hk
        refine withs_guard rfl rfl ?_
        simp only [withs, List.getElem?_cons_zero, List.getElem?_cons_succ, Option.bind, Option.getD]
        repeat (first | (with_reducible refine all_isV ?_) | (with_reducible refine all_isRD ?_; intro sx Ax kx cx hvx hwx) | (with_reducible refine all_isRN ?_; intro Ax kx cx hvx) | (with_reducible refine all_isD ?_; intro sx Ax kx cx hvx hwx))
        refine ⟨by kernel_rfl, ?_⟩
        go_simp
        (first | exact ⟨Only.refl _ _, isV.self _ _⟩ | exact isV.self _ _)
      refine owes2_cons (fun wx hox => ?_) ?_
      · refine withs_guardN true rfl rfl rfl ?_
        simp only [withs, List.getElem?_cons_zero, List.getElem?_cons_succ, Option.bind, Option.getD]
        repeat (first | (with_reducible refine all_isV ?_) | (with_reducible refine all_isRD ?_; intro sx Ax kx cx hvx hwx) | (with_reducible refine all_isRN ?_; intro Ax kx cx hvx) | (with_reducible refine all_isD ?_; intro sx Ax kx cx hvx hwx))
        exact ⟨by kernel_rfl, isV.self _ _⟩
      refine owes2_cons (fun wx hox => ?_) ?_
      · refine withs_guardN true rfl rfl rfl ?_
        simp only [withs, List.getElem?_cons_zero, List.getElem?_cons_succ, Option.bind, Option.getD]
        repeat (first | (with_reducible refine all_isV ?_) | (with_reducible refine all_isRD ?_; intro sx Ax kx cx hvx hwx) | (with_reducible refine all_isRN ?_; intro Ax kx cx hvx) | (with_reducible refine all_isD ?_; intro sx Ax kx cx hvx hwx))
        exact ⟨by kernel_rfl, isV.self _ _⟩
      refine owes2_cons (fun wx hox => ?_) ?_
      · refine withs_guardN true rfl rfl rfl ?_
        simp only [withs, List.getElem?_cons_zero, List.getElem?_cons_succ, Option.bind, Option.getD]
        repeat (first | (with_reducible refine all_isV ?_) | (with_reducible refine all_isRD ?_; intro sx Ax kx cx hvx hwx) | (with_reducible refine all_isRN ?_; intro Ax kx cx hvx) | (with_reducible refine all_isD ?_; intro sx Ax kx cx hvx hwx))
        exact ⟨by kernel_rfl, isV.self _ _⟩
      refine owes2_cons (fun wx hox => ?_) ?_
      · skip
        have hk := HK.out.step hox
        obtain ⟨i0, i1, -, -⟩ := hk.c2 1 rfl
        obtain ⟨j0, j1, j2, -, -, -⟩ := hk.c3 0 rfl
        have hcl := hox.cell hcell (by simp)
        clear hk
        refine withs_guard rfl rfl ?_
        simp only [withs, List.getElem?_cons_zero, List.getElem?_cons_succ, Option.bind, Option.getD]
        repeat (first | (with_reducible refine all_isV ?_) | (with_reducible refine all_isRD ?_; intro sx Ax kx cx hvx hwx) | (with_reducible refine all_isRN ?_; intro Ax kx cx hvx) | (with_reducible refine all_isD ?_; intro sx Ax kx cx hvx hwx))
        refine ⟨by kernel_rfl, ?_⟩
        go_simp
        (first | exact ⟨Only.refl _ _, isV.self _ _⟩ | exact isV.self _ _)
      refine owes2_cons (fun wx hox => ?_) ?_
      · skip
        have hk := HK.out.step hox
        obtain ⟨i0, i1, -, -⟩ := hk.c2 1 rfl
        obtain ⟨j0, j1, j2, -, -, -⟩ := hk.c3 0 rfl
        have hcl := hox.cell hcell (by simp)
        clear hk
        refine withs_plain rfl ?_
        simp only [withs, List.getElem?_cons_zero, List.getElem?_cons_succ, Option.bind, Option.getD]
        repeat (first | (with_reducible refine all_isV ?_) | (with_reducible refine all_isRD ?_; intro sx Ax kx cx hvx hwx) | (with_reducible refine all_isRN ?_; intro Ax kx cx hvx) | (with_reducible refine all_isD ?_; intro sx Ax kx cx hvx hwx))
        go_simp
        (first | exact ⟨Only.refl _ _, isV.self _ _⟩ | exact isV.self _ _)
      refine owes2_cons (fun wx hox => ?_) ?_
      · skip
        have hk := HK.out.step hox
        obtain ⟨i0, i1, -, -⟩ := hk.c2 1 rfl
        obtain ⟨j0, j1, j2, -, -, -⟩ := hk.c3 0 rfl
        have hcl := hox.cell hcell (by simp)
        clear hk
        refine withs_plain rfl ?_
        simp only [withs, List.getElem?_cons_zero, List.getElem?_cons_succ, Option.bind, Option.getD]
        repeat (first | (with_reducible refine all_isV ?_) | (with_reducible refine all_isRD ?_; intro sx Ax kx cx hvx hwx) | (with_reducible refine all_isRN ?_; intro Ax kx cx hvx) | (with_reducible refine all_isD ?_; intro sx Ax kx cx hvx hwx))
        go_simp
        (first | exact ⟨Only.refl _ _, isV.self _ _⟩ | exact isV.self _ _)
      exact owes2_nil
    case he =>
      intro wx hox
      refine withs_of (by simp only [List.length, List.range, List.range.loop]; exact rfl) ?_
      simp only [withs, List.getElem?_cons_zero, List.getElem?_cons_succ, Option.bind, Option.getD]
      repeat (first | (with_reducible refine all_isV ?_) | (with_reducible refine all_isRD ?_; intro sx Ax kx cx hvx hwx) | (with_reducible refine all_isRN ?_; intro Ax kx cx hvx) | (with_reducible refine all_isD ?_; intro sx Ax kx cx hvx hwx))
      go_simp
      go_wp2_with fail
      go_ret
      exact ⟨rfl, HK.out.only.nil_trans hox⟩
    case hl =>
      repeat (refine List.forall_mem_cons.2 ⟨?_, ?_⟩; first | exact isV.lasts _ | exact isRD.lasts _ | exact isRN.lasts _ | exact isD.lasts _ | exact isNV.lasts _ | exact isDV.lasts _ | exact isWV.lasts _ | exact isWC.lasts _ | exact isNR.lasts _ _ | exact isWR.lasts _ _ | exact isRow.lasts _ _ _ | exact isPtr.lasts _ _ _ | exact isRow1.lasts _)
      exact fun _ h => (by cases h)
end Go.Proofs.YtafipkighpjknaaDoor
