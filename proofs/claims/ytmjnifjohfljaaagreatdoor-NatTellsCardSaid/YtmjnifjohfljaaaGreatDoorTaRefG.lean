/-
  The reference's numbers: DivMod, below and by one digit.
-/
import Derived.Test.YtmjnifjohfljaaaGreatDoorTaRDiv
namespace Go.Proofs.YtmjnifjohfljaaaGreatDoor
open Go.RowKit

/-- What the reference's DivMod leaves. -/
def RDPost (a b : Nat) (w : World) (e : Ending) (w' : World) : Prop :=
  ∃ A k c A' k' c', e = .returned (.tuple #[.slice A k c, .slice A' k' c']) ∧ RV w' (.slice A k c) (a / b) ∧ RV w' (.slice A' k' c') (a % b) ∧ (∀ x, A = some x → w.heap.size ≤ x.block) ∧ Only [] w w'

set_option maxHeartbeats 800000 in
set_option maxRecDepth 100000 in
theorem rdivmod_lt {w : World} {a b : Value} {m n : Nat} (ha : Hid (RV w a m)) (hb : Hid (RV w b n)) (hfa : Hid (Few m)) (hfb : Hid (Few n)) (hlt : Hid (m < n)) : Calls Tryz.prog 22 #[a, b] w (RDPost m n w) := by
  have hr := rcmp_v ha hb hfa hfb
  obtain ⟨A, c, rfl, h1, h2⟩ := ha.out
  obtain ⟨B, d, rfl, k1, k2⟩ := hb.out
  rw [cmp_le hlt.out] at hr
  have HR := Lib.hid hr
  have HA := Lib.hid h1
  have HC := Lib.hid h2
  clear h1 h2 k1 k2 hr hb
  have hq : Hid (m / n = 0) := Nat.div_eq_of_lt hlt.out
  have hm : Hid (m % n = m) := Nat.mod_eq_of_lt hlt.out
  generalize (R.limbsOf n).length = ln at *
  obtain ⟨lm, hlm⟩ : ∃ lm, (R.limbsOf m).length = lm := ⟨_, rfl⟩
  have HM := Lib.hid hlm
  rw [hlm] at HR
  rw [hlm]
  clear hlm
  go_enter Tryz.func22, Tryz.ntmps22
  go_wp2_with fail
  refine HR.out.mono ?_
  rintro e w1 ⟨rfl, ho⟩
  have HO := Lib.hid ho
  clear ho
  go_wp2_with fail
  go_ret2
  refine ⟨none, 0, 0, A, lm, c, rfl, ?_, ?_, (fun x hx => by cases hx), HO.out⟩
  · rw [hq.out]; exact RV.nil _
  · rw [hm.out, ← HM.out]; exact ⟨A, c, rfl, HA.out.only HO.out, HC.out⟩

/-- Where a row stands that is being divided by a digit. -/
structure ZCar (wm wr : World) (g y : Nat) (xs zs : List Nat) (k rest : Nat) : Prop where
  blk : Blk wr g 102 (limbV zs)
  limb : R.Limb zs
  len : zs.length = xs.length
  val_ : R.val (xs.drop k) = y * R.val (zs.drop k) + rest
  lt : rest < y
  only : Only [g] wm wr
theorem ZCar.step {wm wr wd : World} {g y : Nat} {xs zs : List Nat} {j rest : Nat} (h : ZCar wm wr g y xs zs (j + 1) rest) (hj : j < xs.length) (hx : R.Limb xs) (q r : Nat) (hq : (rest * R.BB + xs[j]?.getD 0) / y = q) (hr : (rest * R.BB + xs[j]?.getD 0) % y = r)
    (hb : Blk wd g 102 ((limbV zs).set j (.int .u64 (q : Int)))) (ho : Only [g] wr wd) : ZCar wm wd g y xs (zs.set j q) j r := by
  subst hq hr
  have hy : 0 < y := by have := h.lt; omega
  have hq : (rest * R.BB + xs[j]?.getD 0) / y < R.BB := by
    rw [Nat.div_lt_iff_lt_mul hy]
    have h1 := Nat.mul_le_mul_right R.BB (show rest + 1 ≤ y from h.lt)
    rw [Nat.succ_mul, Nat.mul_comm y] at h1
    have := hx.get j
    omega
  have hlen := h.len
  refine ⟨?_, h.limb.set _ _ hq, by rw [List.length_set, hlen], ?_, Nat.mod_lt _ hy, h.only.trans ho (by simp)⟩
  · rw [← limbV_set]
    exact hb
  · have h1 := Nat.div_add_mod (rest * R.BB + xs[j]?.getD 0) y
    rw [R.val_drop_cons xs j hj, R.val_drop_cons _ j (by rw [List.length_set]; omega), set_get_eq (by omega), List.drop_set_of_lt (by omega), h.val_]
    rw [Nat.mul_add, Nat.mul_add, Nat.mul_left_comm R.BB y, Nat.mul_comm R.BB rest]
    omega
theorem ZCar.bound {y rest x : Nat} (hr : rest < y) (hy : y < R.BB) (hx : x < R.BB) : rest * 4294967296 < 18446744073709551616 ∧ rest * 4294967296 + x < 18446744073709551616 := by
  rw [R.BB_val] at *
  omega

set_option maxHeartbeats 1600000 in
set_option maxRecDepth 100000 in
theorem rdivmod_one {w : World} {a b : Value} {m n : Nat} (ha : Hid (RV w a m)) (hb : Hid (RV w b n)) (hfa : Hid (Few m)) (hfb : Hid (Few n)) (hlt : Hid (n ≤ m)) (h1 : Hid ((R.limbsOf n).length = 1)) : Calls Tryz.prog 22 #[a, b] w (RDPost m n w) := by
  have hr := rcmp_v ha hb hfa hfb
  have hla := hfa.out.digits
  obtain ⟨A, c, rfl, p1, p2⟩ := ha.out
  obtain ⟨B, d, rfl, k1, k2⟩ := hb.out
  have hY : R.limbsOf n = [n] ∧ 0 < n ∧ n < R.BB := by
    have hv := R.val_limbsOf n
    have hlm := R.limb_limbsOf n
    have hc := R.canon_limbsOf n
    rcases hz : R.limbsOf n with _ | ⟨y, _ | ⟨y2, t⟩⟩
    · have h := h1.out
      rw [hz] at h
      simp at h
    · rw [hz] at hv hlm hc
      simp only [R.val, Nat.mul_zero, Nat.add_zero] at hv
      subst hv
      have h := hc (by simp)
      simp at h
      exact ⟨rfl, by omega, hlm y (by simp)⟩
    · have h := h1.out
      rw [hz] at h
      simp at h
  obtain ⟨y1, y2, y3⟩ := hY
  have HY := Lib.hid y2
  have HYb := Lib.hid y3
  obtain ⟨bb, bo, rfl, e2⟩ := k1 0 (by rw [y1]; simp)
  rw [y1] at e2
  simp only [List.getElem?_cons_zero, Option.getD_some, Nat.add_zero] at e2
  have HA := Lib.hid p1
  have HB := Lib.hid e2
  have hz0 : ¬ (cmpZ m n < 0) := by have := hlt.out; unfold cmpZ; split <;> (try split) <;> omega
  rw [h1.out] at hr ⊢
  have HR := Lib.hid hr
  clear hr p1 p2 k1 k2 y1 y2 y3 e2 ha hb h1
  generalize cmpZ m n = z at *
  have HLx := Lib.hid (R.limb_limbsOf m)
  have HVx : Hid (R.val (R.limbsOf m) = m) := R.val_limbsOf m
  generalize R.limbsOf m = xs at HA HR HLx HVx hla ⊢
  obtain ⟨lm, hlm⟩ : ∃ lm, xs.length = lm := ⟨_, rfl⟩
  have HM := Lib.hid hlm
  rw [hlm] at HR hla
  rw [hlm]
  clear hlm
  go_enter Tryz.func22, Tryz.ntmps22
  go_wp2_with fail
  refine HR.out.mono ?_
  rintro e w1 ⟨rfl, ho⟩
  obtain ⟨w2, hmk, hb1, ho1, hs1⟩ := make_limbs 25 Tryz.underlying25 w1 lm (by omega)
  have HO := Lib.hid (ho.trans ho1 (by simp))
  have HS : Hid (w.heap.size ≤ w1.heap.size) := ho.size
  have HS1 := Lib.hid hs1
  have HStart : Hid (ZCar w2 w2 w1.heap.size n xs (List.replicate lm 0) lm 0) := ⟨hb1, R.Limb.zeros _, by rw [List.length_replicate]; exact HM.out.symm, by rw [← HM.out, List.drop_length, HM.out, List.drop_of_length_le (by simp)]; simp [R.val], HY.out, Only.refl _ _⟩
  have hg : bb ≠ w1.heap.size := by
    have := World.block_lt_of_cell? w _ HB.out
    have := HS.out
    simp only at *
    omega
  have HB2 : Hid (w2.cell? ⟨bb, bo, none⟩ = some (.int .u64 (n : Int))) := HO.out.cell HB.out (by simp)
  have HA2 : Hid (LRead w2 A xs) := HA.out.only HO.out
  have HAn : Hid (∀ j b' o', A = some ⟨b', o', none⟩ → j < xs.length → b' ≠ w1.heap.size) := by
    intro j b' o' e hj
    obtain ⟨b2, o2, e2, hc2⟩ := HA.out j hj
    rw [e2] at e
    injection e with e
    injection e with e _ _
    subst e
    have := World.block_lt_of_cell? w _ hc2
    have := HS.out
    simp only at *
    omega
  clear ho ho1 hb1 hs1 HR HB HA
  generalize w1.heap.size = g at *
  go_wp2_with fail
  go_loopw [7, 8] (fun rv iv wr => ∃ (k rest : Nat) (zs : List Nat), k ≤ lm ∧ rv = .int .u64 (rest : Int) ∧ iv = .int .i64 ((k : Int) - 1) ∧ ZCar w2 wr g n xs zs k rest) (fun _ iv _ => (intOf iv + 1).toNat)
  case atStart => exact ⟨lm, 0, _, Nat.le_refl _, rfl, rfl, HStart.out⟩
  case round =>
    obtain ⟨k, rest, zs, hk, rfl, rfl, hR⟩ := hrel
    have HR := Lib.hid hR
    clear hR HStart
    rcases k with _ | j
    · have HV : Hid (m = n * R.val zs + rest) := by
        have h := HR.out.val_
        simp only [List.drop_zero] at h
        rw [HVx.out] at h
        exact h
      have hd1 : Hid (R.val zs = m / n) := by
        show _ = _
        rw [HV.out, Nat.mul_add_div HY.out, Nat.div_eq_of_lt HR.out.lt, Nat.add_zero]
      have hd2 : Hid (rest = m % n) := by
        show _ = _
        rw [HV.out, Nat.mul_add_mod, Nat.mod_eq_of_lt HR.out.lt]
      have HLz := Lib.hid (HR.out.len.trans HM.out)
      have HRd : Hid (LRead wr (some ⟨g, 0, none⟩) zs) := by
        have h := LRead.of_tl (tl := []) (by rw [List.append_nil]; exact HR.out.blk)
        exact h
      have htr := rtrim_any (some ⟨g, 0, none⟩) lm lm zs wr HRd (Lib.hid HR.out.limb) (Lib.hid HLz.out.symm) (Nat.le_refl _) (by omega)
      rw [hd1.out] at htr
      have HTr := Lib.hid htr
      have HRl : Hid (rest < BB) := by
        have h2 := HR.out.lt
        have h3 := HYb.out
        have h4 := R.BB_pos
        have h5 := Nat.le_mul_of_pos_left R.BB h4
        rw [← R.bb_sq] at h5
        show _ < _
        omega
      have HRv : Hid (RV wr (.slice (some ⟨g, 0, none⟩) (R.limbsOf (m / n)).length (R.limbsOf (m / n)).length) (m / n)) := by
        have h2 := RV.of_row HRd.out HR.out.limb
        rw [hd1.out] at h2
        exact ⟨_, _, rfl, h2, Nat.le_refl _⟩
      have hi : ((0 : Nat) : Int) - 1 = -1 := rfl
      rw [hi]
      clear hi htr
      go_wp2_with fail
      refine HTr.out.mono ?_
      rintro e w' ⟨rfl, rfl⟩
      go_wp2_with fail
      refine (rsmall_any rest wr HRl).mono ?_
      rintro e w3 ⟨A3, k3, c3, rfl, hv3, -, ho3⟩
      have HV3 := Lib.hid hv3
      have HO3 := Lib.hid ho3
      clear hv3 ho3
      go_wp2_with fail
      go_ret2
      refine ⟨_, _, _, _, _, _, rfl, HRv.out.only HO3.out, ?_, fun x hx => ?_, ?_⟩
      · rw [← hd2.out]; exact HV3.out
      · injection hx with hx
        subst hx
        exact HS.out
      · exact (HO.out.trans HR.out.only (fun x hx => .inr (by simp at hx; rw [hx]; exact HS.out))).trans HO3.out (by simp)
    · have hi : ((j + 1 : Nat) : Int) - 1 = (j : Int) := by omega
      rw [hi]
      clear hi
      have HJ : Hid (j < xs.length) := by have := HM.out; show _ < _; omega
      obtain ⟨b', o', rfl, c1⟩ := HA2.out j HJ.out
      have hbg := HAn.out j b' o' rfl HJ.out
      have c2 := HR.out.only.cell c1 (by simpa using hbg)
      have c3 := HR.out.only.cell HB2.out (by simpa using hg)
      have hji : (j : Int) < (lm : Int) := by omega
      have HX := Lib.hid (HLx.out.get j)
      obtain ⟨x, hx⟩ : ∃ x, xs[j]?.getD 0 = x := ⟨_, rfl⟩
      rw [hx] at c2 HX
      obtain ⟨q1, q2⟩ := ZCar.bound HR.out.lt HYb.out HX.out
      obtain ⟨t0, ht0⟩ : ∃ t0, rest * 4294967296 = t0 := ⟨_, rfl⟩
      obtain ⟨t, ht⟩ : ∃ t, t0 + x = t := ⟨_, rfl⟩
      rw [ht0] at q1 q2
      rw [ht] at q2
      have hw1 : IntKind.u64.wrap ((rest : Int) * 4294967296) = (t0 : Int) := by
        rw [show (rest : Int) * 4294967296 = (t0 : Int) by omega]
        exact u64_wrap (by rw [BB_val]; exact q1)
      have hw2 : IntKind.u64.wrap ((t0 : Int) + (x : Int)) = (t : Int) := u64_add ht (by rw [BB_val]; exact q2)
      have hnz : (n : Int) ≠ 0 := by have := HY.out; omega
      obtain ⟨q, hq⟩ : ∃ q, t / n = q := ⟨_, rfl⟩
      obtain ⟨r, hr⟩ : ∃ r, t % n = r := ⟨_, rfl⟩
      have hq1 : (t : Int).tdiv (n : Int) = (q : Int) := by rw [← hq]; rfl
      have hq2 : (t : Int) / (n : Int) = (q : Int) := by rw [← hq]; rfl
      have hr1 : (t : Int).tmod (n : Int) = (r : Int) := by rw [← hr]; rfl
      have hr2 : (t : Int) % (n : Int) = (r : Int) := by rw [← hr]; rfl
      have hql : q ≤ t := by rw [← hq]; exact Nat.div_le_self _ _
      have hrl : r ≤ t := by rw [← hr]; exact Nat.mod_le _ _
      have hw3 : IntKind.u64.wrap (q : Int) = (q : Int) := u64_wrap (by rw [BB_val]; omega)
      have hw4 : IntKind.u64.wrap (r : Int) = (r : Int) := u64_wrap (by rw [BB_val]; omega)
      have hB2 := HR.out.blk.set_ j (.int .u64 (q : Int))
      have c4 := HR.out.blk.cell j
      rw [limbV_get _ _ (by rw [HR.out.len]; exact HJ.out)] at c4
      have f4 := HR.out.blk.frozen j
      have c5 := ((Only.refl [g] wr).setCell (p := ⟨g, j, none⟩) (.inl (by simp)) (.int .u64 (q : Int))).cell c3 (by simpa using hg)
      have HS2 := Lib.hid (HR.out.step HJ.out HLx.out q r (by rw [hx, R.BB_val, ht0, ht, hq]) (by rw [hx, R.BB_val, ht0, ht, hr]) hB2 ((Only.refl [g] wr).setCell (.inl (by simp)) _))
      clear hB2 hx ht0 ht hq hr q1 q2 hql hrl c1
      go_wp2_with fail
      go_roundw
      case rel => exact ⟨j, _, _, by omega, rfl, rfl, HS2.out⟩
      case measure => simp [intOf]
end Go.Proofs.YtmjnifjohfljaaaGreatDoor
