/-
  The reference's numbers: Cmp, Sub, Bits, Low.
-/
import Derived.Test.YtcknigodcjjahaaDoorRefS
namespace Go.Proofs.YtcknigodcjjahaaDoor
open Go.RowKit

set_option maxHeartbeats 1600000 in
theorem rcmp_any (A B : Option Addr) (n m c d : Nat) (xs ys : List Nat) (w : World) (hA : Hid (LRead w A xs)) (hB : Hid (LRead w B ys)) (hx : Hid (R.Limb xs)) (hy : Hid (R.Limb ys)) (hcx : Hid (R.Canon xs)) (hcy : Hid (R.Canon ys)) (hn : Hid (n = xs.length)) (hm : Hid (m = ys.length)) (hl1 : (n : Int) ≤ 8000000) (hl2 : (m : Int) ≤ 8000000) :
    Calls Tryd.prog 79 #[.slice A n c, .slice B m d] w fun e w' => e = .returned (.int .i64 (cmpZ (R.val xs) (R.val ys))) ∧ Only [] w w' := by
  have hlx := R.limbsOf_val hx.out hcx.out
  have hly := R.limbsOf_val hy.out hcy.out
  by_cases hlt : (n : Int) < (m : Int)
  · have HE : Hid (cmpZ (R.val xs) (R.val ys) = -1) := cmp_le (R.cmp_len (by rw [hlx, hly]; have := hn.out; have := hm.out; omega))
    have hne : ((n : Int) != (m : Int)) = true := by simp; omega
    clear hlx hly
    go_enter Tryd.func79, Tryd.ntmps79
    go_wp2_with fail
    go_ret
    exact ⟨by rw [HE.out]; rfl, Only.refl _ _⟩
  · by_cases hgt : (m : Int) < (n : Int)
    · have HE : Hid (cmpZ (R.val xs) (R.val ys) = 1) := cmp_gt (R.cmp_len (by rw [hlx, hly]; have := hn.out; have := hm.out; omega))
      have hne : ((n : Int) != (m : Int)) = true := by simp; omega
      clear hlx hly
      go_enter Tryd.func79, Tryd.ntmps79
      go_wp2_with fail
      go_ret
      exact ⟨by rw [HE.out]; rfl, Only.refl _ _⟩
    · obtain rfl : n = m := by omega
      have HLen : Hid (xs.length = ys.length) := by have := hn.out; have := hm.out; show _ = _; omega
      have hne : ((n : Int) != (n : Int)) = false := by simp
      clear hlx hly hlt hgt
      go_enter Tryd.func79, Tryd.ntmps79
      go_wp2_with fail
      go_loopw [5] (fun i wr => ∃ k : Nat, k ≤ n ∧ i = .int .i64 ((k : Int) - 1) ∧ Only [] w wr ∧ xs.drop k = ys.drop k) (fun i _ => (intOf i + 1).toNat)
      case atStart => exact ⟨n, Nat.le_refl _, rfl, Only.refl _ _, by rw [hn.out, List.drop_length, HLen.out, List.drop_length]⟩
      case round =>
        obtain ⟨k, hk, rfl, ho, hd⟩ := hrel
        have HO := Lib.hid ho
        have HD := Lib.hid hd
        clear ho hd
        cases k with
        | zero =>
          have HE : Hid (cmpZ (R.val xs) (R.val ys) = 0) := cmp_eq (by
            have := HD.out
            simp only [List.drop_zero] at this
            rw [this])
          go_wp2_with fail
          go_ret
          exact ⟨by rw [HE.out]; rfl, HO.out⟩
        | succ m =>
          obtain ⟨b, o, rfl, hc1⟩ := hA.out m (by have := hn.out; omega)
          obtain ⟨b', o', rfl, hc2⟩ := hB.out m (by have := hn.out; have := HLen.out; omega)
          have c1 := HO.out.cell hc1 (by simp)
          have c2 := HO.out.cell hc2 (by simp)
          have hm1 : (m : Int) < (n : Int) := by omega
          rw [show ((m + 1 : Nat) : Int) - 1 = (m : Int) by omega]
          clear hc1 hc2
          have HLt : Hid (xs[m]?.getD 0 < ys[m]?.getD 0 → R.val xs < R.val ys) := fun h => R.cmp_at hx.out HLen.out (by have := hn.out; omega) HD.out h
          have HGt : Hid (ys[m]?.getD 0 < xs[m]?.getD 0 → R.val ys < R.val xs) := fun h => R.cmp_at hy.out HLen.out.symm (by have := hn.out; have := HLen.out; omega) HD.out.symm h
          have HEq : Hid (xs[m]?.getD 0 = ys[m]?.getD 0 → xs.drop m = ys.drop m) := fun h => R.drop_step HLen.out (by have := hn.out; omega) HD.out h
          generalize xs[m]?.getD 0 = x at c1 HLt HGt HEq
          generalize ys[m]?.getD 0 = y at c2 HLt HGt HEq
          clear HD
          rcases Nat.lt_trichotomy x y with hxy | hxy | hxy
          · have HE : Hid (cmpZ (R.val xs) (R.val ys) = -1) := cmp_le (HLt.out hxy)
            have g1 : (x : Int) < (y : Int) := by omega
            clear hxy
            go_wp2_with fail
            go_quiet (fail)
            go_wp2_with fail
            go_ret
            exact ⟨by rw [HE.out]; rfl, HO.out.drewN _⟩
          · have HE := Lib.hid (HEq.out hxy)
            subst hxy
            go_wp2_with fail
            go_quiet (fail)
            go_wp2_with fail
            go_quiet (fail)
            go_wp2_with fail
            go_roundw
            case rel => exact ⟨m, by omega, rfl, by first | exact HO.out.drewN _ | exact (HO.out.drewN _).drewN _, HE.out⟩
            case measure => simp [intOf]
          · have HE : Hid (cmpZ (R.val xs) (R.val ys) = 1) := cmp_gt (HGt.out hxy)
            have g1 : (y : Int) < (x : Int) := by omega
            clear hxy
            go_wp2_with fail
            go_quiet (fail)
            go_wp2_with fail
            go_quiet (fail)
            go_wp2_with fail
            go_ret
            exact ⟨by rw [HE.out]; rfl, by first | exact HO.out.drewN _ | exact (HO.out.drewN _).drewN _⟩
theorem rcmp_v {w : World} {a b : Value} {m n : Nat} (ha : Hid (RV w a m)) (hb : Hid (RV w b n)) (hfa : Hid (Few m)) (hfb : Hid (Few n)) : Calls Tryd.prog 79 #[a, b] w fun e w' => e = .returned (.int .i64 (cmpZ m n)) ∧ Only [] w w' := by
  obtain ⟨A, c, rfl, h1, h2⟩ := ha.out
  obtain ⟨B, d, rfl, k1, k2⟩ := hb.out
  have := hfa.out.digits
  have := hfb.out.digits
  have h := rcmp_any A B _ _ c d (R.limbsOf m) (R.limbsOf n) w (Lib.hid h1) (Lib.hid k1) (Lib.hid (R.limb_limbsOf m)) (Lib.hid (R.limb_limbsOf n)) (Lib.hid (R.canon_limbsOf m)) (Lib.hid (R.canon_limbsOf n)) (Lib.hid rfl) (Lib.hid rfl) (by omega) (by omega)
  rw [R.val_limbsOf, R.val_limbsOf] at h
  exact h

theorem rbits_top {xs : List Nat} {k : Nat} (hx : R.Limb xs) (hl : xs.length = k + 1) (ht : xs[k]?.getD 0 ≠ 0) : bitsN (R.val xs) = 32 * k + bitsN (xs[k]?.getD 0) := by
  have c1 := R.val_take_succ xs k (by omega)
  rw [show xs.take (k + 1) = xs by rw [← hl, List.take_length]] at c1
  have c0 := R.val_lt (hx.take k)
  rw [List.length_take, Nat.min_eq_left (by omega)] at c0
  have hp : R.BB ^ k = 2 ^ (32 * k) := by rw [R.BB_pow, ← Nat.pow_mul]
  generalize xs[k]?.getD 0 = t at *
  have hL := (Nat.log2_eq_iff (k := Nat.log2 t) ht).1 rfl
  have e : bitsN t = Nat.log2 t + 1 := by unfold bitsN; rw [if_neg ht]
  have h1 : 2 ^ (32 * k + Nat.log2 t) ≤ R.val xs := by
    rw [Nat.pow_add, ← hp]
    have := Nat.mul_le_mul_left (R.BB ^ k) hL.1
    omega
  have h2 : R.val xs < 2 ^ (32 * k + Nat.log2 t + 1) := by
    rw [Nat.add_assoc, Nat.pow_add, ← hp]
    have h3 : R.BB ^ k * (t + 1) ≤ R.BB ^ k * 2 ^ (Nat.log2 t + 1) := Nat.mul_le_mul_left _ hL.2
    rw [Nat.mul_add] at h3
    omega
  have h0 : R.val xs ≠ 0 := by
    have : 0 < 2 ^ (32 * k + Nat.log2 t) := Nat.pow_pos (by omega)
    omega
  rw [e]
  unfold bitsN
  rw [if_neg h0, (Nat.log2_eq_iff h0).2 ⟨h1, h2⟩]
  omega
theorem bits_half {v : Nat} (h : 0 < v) : bitsN v = bitsN (v / 2) + 1 := by
  unfold bitsN
  rw [if_neg (by omega)]
  by_cases h2 : v / 2 = 0
  · rw [if_pos h2]
    have : v = 1 := by omega
    rw [this]
    rfl
  · rw [if_neg h2]
    have h1 := (Nat.log2_eq_iff (k := Nat.log2 (v / 2)) h2).1 rfl
    have e : Nat.log2 v = Nat.log2 (v / 2) + 1 := by
      refine (Nat.log2_eq_iff (by omega)).2 ⟨?_, ?_⟩
      · rw [Nat.pow_succ]; omega
      · rw [Nat.pow_succ]; omega
    rw [e]
set_option maxHeartbeats 800000 in
set_option maxRecDepth 100000 in
theorem rbits_any (A : Option Addr) (n c : Nat) (xs : List Nat) (w : World) (hA : Hid (LRead w A xs)) (hx : Hid (R.Limb xs)) (hcx : Hid (R.Canon xs)) (hn : Hid (n = xs.length)) (hl : (n : Int) ≤ 8000000) :
    Calls Tryd.prog 19 #[.slice A n c] w fun e w' => e = .returned (.int .i64 (bitsN (R.val xs) : Int)) ∧ w = w' := by
  by_cases h0 : n = 0
  · subst h0
    have hv : Hid (bitsN (R.val xs) = 0) := by
      have : xs = [] := List.eq_nil_of_length_eq_zero hn.out.symm
      show _ = _
      rw [this]
      rfl
    go_enter Tryd.func19, Tryd.ntmps19
    go_wp2_with fail
    go_ret
    exact ⟨by rw [hv.out]; rfl, rfl⟩
  · obtain ⟨k, hk⟩ : ∃ k, n = k + 1 := ⟨n - 1, by omega⟩
    have h0i : ((n : Int) == 0) = false := by rw [beq_eq_false_iff_ne]; omega
    obtain ⟨b, o, rfl, p0⟩ := hA.out k (by have := hn.out; omega)
    have ht : xs[k]?.getD 0 ≠ 0 := by
      have h := hcx.out (by have := hn.out; omega)
      have e : xs.length - 1 = k := by have := hn.out; omega
      rw [List.getElem?_eq_getElem (by have := hn.out; omega)]
      simpa [e] using h
    have HB := Lib.hid (rbits_top hx.out (hn.out.symm.trans hk) ht)
    have HX := Lib.hid (hx.out.get k)
    have hk1 : (n : Int) - 1 = (k : Int) := by omega
    have hk2 : (k : Int) < (n : Int) := by omega
    have hk3 : (k : Int) ≤ 8000000 := by omega
    clear hk
    generalize xs[k]?.getD 0 = t at p0 HB HX
    have HTl : Hid (bitsN t ≤ 32) := by
      have h := HX.out
      rw [R.BB_pow] at h
      show _ ≤ _
      unfold bitsN
      split
      · omega
      · rename_i h1
        have := (Nat.log2_lt h1).2 h
        omega
    clear h0 ht
    go_enter Tryd.func19, Tryd.ntmps19
    go_wp2_with fail
    go_loop [3, 4] (fun nv vv => ∃ v j : Nat, nv = .int .i64 (j : Int) ∧ vv = .int .u64 (v : Int) ∧ j + bitsN v = 32 * k + bitsN t ∧ v ≤ t) (fun _ vv => (intOf vv).toNat)
    case atStart => exact ⟨t, 32 * k, by simp, rfl, rfl, Nat.le_refl _⟩
    case round =>
      obtain ⟨v, j, rfl, rfl, hj, hvt⟩ := hrel
      have HJ := Lib.hid hj
      have HVt := Lib.hid hvt
      clear hj hvt
      have hjl : (j : Int) ≤ 300000000 := by have := HJ.out; have := HTl.out; omega
      by_cases hv : v = 0
      · subst hv
        have HJ0 : Hid (j = bitsN (R.val xs)) := by
          have := HJ.out
          rw [show bitsN 0 = 0 from rfl] at this
          rw [HB.out]
          show _ = _
          omega
        go_wp2_with fail
        go_ret
        exact ⟨by rw [← HJ0.out]; rfl, rfl⟩
      · have HH := Lib.hid (bits_half (Nat.pos_of_ne_zero hv))
        have hvi : (0 : Int) < (v : Int) := by omega
        obtain ⟨v2, hv2⟩ : ∃ v2, v / 2 = v2 := ⟨_, rfl⟩
        have hvd : (v : Int) / 2 = (v2 : Int) := by omega
        have hvd2 : (v : Int).tdiv 2 = (v2 : Int) := by rw [Int.tdiv_eq_ediv_of_nonneg (by omega)]; exact hvd
        have hlt2 : Hid (v2 < v) := by show _ < _; omega
        have hvw : IntKind.u64.wrap (v2 : Int) = (v2 : Int) := u64_wrap (by have := HVt.out; have := HX.out; rw [R.BB_val] at this; rw [BB_val]; omega)
        rw [hv2] at HH
        clear hv hv2
        go_wp2_with fail
        go_round
        case rel => exact ⟨v2, j + 1, by go_num, rfl, by have := HJ.out; have := HH.out; omega, by have := HVt.out; have := hlt2.out; omega⟩
        case measure => have := hlt2.out; simp [intOf]; omega
theorem rbits_v {w : World} {a : Value} {m : Nat} (ha : Hid (RV w a m)) (hfa : Hid (Few m)) : Calls Tryd.prog 19 #[a] w fun e w' => e = .returned (.int .i64 (bitsN m : Int)) ∧ w = w' := by
  obtain ⟨A, c, rfl, h1, h2⟩ := ha.out
  have := hfa.out.digits
  have h := rbits_any A _ c (R.limbsOf m) w (Lib.hid h1) (Lib.hid (R.limb_limbsOf m)) (Lib.hid (R.canon_limbsOf m)) (Lib.hid rfl) (by omega)
  rw [R.val_limbsOf] at h
  exact h
end Go.Proofs.YtcknigodcjjahaaDoor
