/-
  The reference's Parse.
-/
import Derived.Test.YtcmimpooknbopaaDoorRefD
import Derived.Test.YtcmimpooknbopaaDoorPars
namespace Go.Proofs.YtcmimpooknbopaaDoor
open Go.RowKit

theorem LRead.lt {w : World} {A : Option Addr} {xs : List Nat} (h : LRead w A xs) (h0 : 0 < xs.length) : ∀ a, A = some a → a.block < w.heap.size := by
  obtain ⟨b, o, rfl, hc⟩ := h 0 h0
  rintro a ha
  injection ha with ha
  subst ha
  exact World.block_lt_of_cell? w _ hc
theorem rmul_v {w : World} {a b : Value} {m n : Nat} (ha : Hid (RV w a m)) (hb : Hid (RV w b n)) (hfa : Hid (Few m)) (hfb : Hid (Few n)) : Calls Tryd.prog 34 #[a, b] w (RPost (m * n) w) := by
  obtain ⟨A, c, rfl, h1, h2⟩ := ha.out
  obtain ⟨B, d, rfl, k1, k2⟩ := hb.out
  have := hfa.out.digits
  have := hfb.out.digits
  have h := rmul_any A B _ _ c d (R.limbsOf m) (R.limbsOf n) w (Lib.hid h1) (Lib.hid k1) (Lib.hid (R.limb_limbsOf m)) (Lib.hid (R.limb_limbsOf n)) (Lib.hid rfl) (Lib.hid rfl) (by omega) (Lib.hid (fun a h h0 => h1.lt h0 a h)) (Lib.hid (fun a h h0 => k1.lt h0 a h))
  rw [R.val_limbsOf, R.val_limbsOf] at h
  exact h
theorem rsmall_lit (v : Nat) (z : Int) (w : World) (hv : Hid (v < BB)) (hz : Hid ((v : Int) = z)) : Calls Tryd.prog 54 #[.int .u64 z] w (RPost v w) := by
  have h := rsmall_any v w hv
  rw [hz.out] at h
  exact h
/-- What the reference's Parse leaves. -/
def RParsePost (l : List UInt8) (w : World) (e : Ending) (w' : World) : Prop :=
  (parseN l = none ∧ e = .returned (.tuple #[.slice none 0 0, .bool false]) ∧ Only [] w w') ∨
  (∃ n A k c, parseN l = some n ∧ e = .returned (.tuple #[.slice A k c, .bool true]) ∧ RV w' (.slice A k c) n ∧ Only [] w w')

set_option maxHeartbeats 3200000 in
set_option maxRecDepth 100000 in
theorem rparse_any (s : ByteArray) (w : World) (hs : s.size ≤ maxLen) : Calls Tryd.prog 28 #[.string s] w (RParsePost s.data.toList w) := by
  unfold maxLen at hs
  have HSz : Hid (s.data.toList.length = s.size) := by show s.data.toList.length = s.data.size; exact Array.length_toList
  by_cases h0 : s.size = 0
  · have HNo := Lib.hid (parse_none1 (l := s.data.toList) (.inl (by rw [HSz.out]; exact h0)))
    have h0i : (s.size : Int) < 1 := by omega
    go_enter Tryd.func28, Tryd.ntmps28
    go_wp2_with fail
    go_ret2
    exact .inl ⟨HNo.out, rfl, Only.refl _ _⟩
  · have h0i : ¬ (s.size : Int) < 1 := by omega
    by_cases h2 : 20000 < s.size
    · have HNo := Lib.hid (parse_none1 (l := s.data.toList) (.inr (by rw [HSz.out]; exact h2)))
      have h2i : (20000 : Int) < (s.size : Int) := by omega
      go_enter Tryd.func28, Tryd.ntmps28
      go_wp2_with fail
      go_ret2
      exact .inl ⟨HNo.out, rfl, Only.refl _ _⟩
    · have h2i : (s.size : Int) ≤ 20000 := by omega
      have H0 := Lib.hid h0
      clear h2 h0
      go_enter Tryd.func28, Tryd.ntmps28
      go_wp2_with fail
      go_loopw [4, 5] (fun ov iv wr => ∃ (k k1 : Nat) (A : Option Addr) (c : Nat), k ≤ s.size ∧ ov = .slice A k1 c ∧ iv = .int .i64 (k : Int) ∧ (s.data.toList.take k).all isDig = true ∧ RV wr (.slice A k1 c) (dval (s.data.toList.take k)) ∧ Only [] w wr) (fun _ iv _ => s.size - (intOf iv).toNat)
      case atStart => exact ⟨0, 0, none, 0, Nat.zero_le _, rfl, rfl, rfl, RV.nil _, Only.refl _ _⟩
      case round =>
        obtain ⟨k, k1, A, c, hk, rfl, rfl, ha, hv, ho⟩ := hrel
        have HA := Lib.hid ha
        have HV := Lib.hid hv
        have HO := Lib.hid ho
        clear ha hv ho
        by_cases hlt : k < s.size
        · have HG : Hid (s.data.toList[k]?.getD 0 = s[k]) := by
            show _ = _
            rw [List.getElem?_eq_getElem (by rw [HSz.out]; exact hlt)]
            rfl
          have HTk : Hid ((s.data.toList.take (k + 1)).all isDig = ((s.data.toList.take k).all isDig && isDig s[k])) := by
            show _ = _
            rw [List.take_succ_eq_append_getElem (by rw [HSz.out]; exact hlt), List.all_append]
            simp
            rfl
          have HDv : Hid (dval (s.data.toList.take (k + 1)) = dval (s.data.toList.take k) * 10 + (s[k].toNat - 48)) := by
            show _ = _
            rw [List.take_succ_eq_append_getElem (by rw [HSz.out]; exact hlt), dval_snoc]
            rfl
          have HNone : Hid (isDig s[k] = false → parseN s.data.toList = none) := fun h => parse_none2 (k := k) (by rw [HSz.out]; exact hlt) (by rw [HG.out]; exact h)
          have HFw : Hid (dval (s.data.toList.take k) < 10 ^ k) := by
            have h1 := dval_lt _ HA.out
            rwa [List.length_take, Nat.min_eq_left (by rw [HSz.out]; omega)] at h1
          have HFew : Hid (Few (dval (s.data.toList.take k))) := by
            refine Few.of_pow (k := k) (Nat.lt_of_lt_of_le HFw.out (Nat.pow_le_pow_left (by rw [BB_val]; omega) k)) (by omega)
          have HFew2 : Hid (Few (dval (s.data.toList.take k) * 10)) := by
            refine Few.of_pow (k := k + 1) ?_ (by omega)
            rw [Nat.pow_succ]
            exact Nat.mul_lt_mul'' (Nat.lt_of_lt_of_le HFw.out (Nat.pow_le_pow_left (by rw [BB_val]; omega) k)) (by rw [BB_val]; omega)
          by_cases hdg : isDig s[k] = true
          · have hdig := (isDig_iff _).1 hdg
            obtain ⟨dd, hdd⟩ : ∃ dd, s[k].toNat - 48 = dd := ⟨_, rfl⟩
            have hdi : (s[k].toNat : Int) - 48 = (dd : Int) := by omega
            have hdw1 : IntKind.u8.wrap (dd : Int) = (dd : Int) := by simp [IntKind.wrap, IntKind.signed, IntKind.bits]; omega
            have hdw3 : IntKind.u8.wrap ((s[k].toNat : Int) - 48) = (dd : Int) := by rw [hdi]; exact hdw1
            have hdw2 : IntKind.u64.wrap (dd : Int) = (dd : Int) := u64_wrap (by rw [BB_val]; omega)
            have hc1 : (48 : Int) ≤ (s[k].toNat : Int) := by omega
            have hc2 : (s[k].toNat : Int) ≤ 57 := by omega
            rw [hdd] at HDv
            have HD := Lib.hid hdg
            have Hdd : Hid (dd < BB) := by show _ < _; rw [BB_val]; omega
            have H10 : Hid (10 < BB) := by show _ < _; rw [BB_val]; omega
            have hki : (k : Int) < (s.size : Int) := by omega
            generalize dval (s.data.toList.take k) = V at *
            clear hdg hdig hdd
            have F10 : Hid (Few 10) := Few.of_pow (k := 1) (by rw [Nat.pow_one]; exact H10.out) (by omega)
            have Fdd : Hid (Few dd) := Few.of_pow (k := 1) (by rw [Nat.pow_one]; exact Hdd.out) (by omega)
            go_wp2_with fail
            go_region_held3 (fun w' => True) (trivial) (first
              | (go_at_call 18; refine (radd_v (Lib.hid (X2.out.1.only X3.out.2)) (Lib.hid X3.out.1) HFew2 Fdd).mono ?_; rintro e x4 ⟨A4, k4, c4, rfl, hv4, ho4⟩; have X4 := Lib.hid (And.intro hv4 (((X1.out.2.nil_trans X2.out.2).nil_trans X3.out.2).nil_trans ho4)); clear hv4 ho4)
              | (go_at_call 54; refine (rsmall_any dd x2 Hdd).mono ?_; rintro e x3 ⟨A3, k3, c3, rfl, hv3, ho3⟩; have X3 := Lib.hid (And.intro hv3 ho3); clear hv3 ho3)
              | (go_at_call 34; refine (rmul_v (Lib.hid (HV.out.only X1.out.2)) (Lib.hid X1.out.1) HFew F10).mono ?_; rintro e x2 ⟨A2, k2, c2, rfl, hv2, ho2⟩; have X2 := Lib.hid (And.intro hv2 ho2); clear hv2 ho2)
              | (go_at_call 54; refine (rsmall_lit 10 10 wr.drew H10 (Lib.hid rfl)).mono ?_; rintro e x1 ⟨A1, k1', c1, rfl, hv1, ho1⟩; have X1 := Lib.hid (And.intro hv1 ((Only.refl [] wr).drew.nil_trans ho1)); clear hv1 ho1))
            all_goals
              go_wp2_with fail
              go_roundw
              case rel => exact ⟨k + 1, _, _, _, by omega, rfl, by go_num, by rw [HTk.out, HA.out, HD.out]; rfl, by rw [HDv.out]; exact X4.out.1, HO.out.nil_trans X4.out.2⟩
              case measure => simp [intOf]; omega
          · have HNo := Lib.hid (HNone.out (Bool.eq_false_iff.2 hdg))
            have hnd : ¬ (48 ≤ s[k].toNat ∧ s[k].toNat ≤ 57) := fun h => hdg ((isDig_iff _).2 h)
            by_cases hlo : s[k].toNat < 48
            · have hloi : (s[k].toNat : Int) < 48 := by omega
              clear hdg hnd
              go_wp2_with fail
              go_ret2
              exact .inl ⟨HNo.out, rfl, HO.out⟩
            · have hloi : ¬ (s[k].toNat : Int) < 48 := by omega
              have hhi : (57 : Int) < (s[k].toNat : Int) := by omega
              clear hdg hnd
              go_wp2_with fail
              go_ret2
              exact .inl ⟨HNo.out, rfl, HO.out⟩
        · have HAll : Hid (s.data.toList.all isDig = true) := by
            have h1 := HA.out
            rw [List.take_of_length_le (by rw [HSz.out]; omega)] at h1
            exact h1
          have HV2 : Hid (RV wr (.slice A k1 c) (dval s.data.toList)) := by
            have h1 := HV.out
            rw [List.take_of_length_le (by rw [HSz.out]; omega)] at h1
            exact h1
          have HSome := Lib.hid (parse_some (by rw [HSz.out]; exact H0.out) (by rw [HSz.out]; omega) HAll.out)
          have hnl : ¬ (k : Int) < (s.size : Int) := by omega
          clear hlt
          go_wp2_with fail
          go_ret2
          exact .inr ⟨_, _, _, _, HSome.out, rfl, HV2.out, HO.out⟩
end Go.Proofs.YtcmimpooknbopaaDoor
