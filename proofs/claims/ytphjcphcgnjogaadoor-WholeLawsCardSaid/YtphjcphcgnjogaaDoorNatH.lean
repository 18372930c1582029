/-
  nat.estimate: a guess of a digit that is not too small.
-/
import Derived.Test.YtphjcphcgnjogaaDoorNatG
import Derived.Test.YtphjcphcgnjogaaDoorDiv64
namespace Go.Proofs.YtphjcphcgnjogaaDoor
open Go.RowKit

/-- Where the guess stands. -/
structure ECar (u2 u1 u0 v1 v0 d r o : Nat) : Prop where
  ok : EstOk u2 u1 u0 v1 v0 d
  rl : r < BB
  eq : o = 0 → d * v1 + r = u2 * BB + u1
theorem ECar.lower {u2 u1 u0 v1 v0 d r : Nat} (h : ECar u2 u1 u0 v1 v0 d r 0) (hl : r * BB + u0 < d * v0) : 0 < d ∧ ECar u2 u1 u0 v1 v0 (d - 1) (aLo r v1 0) (aHi r v1 0) := by
  obtain ⟨h1, h2, h3⟩ := est_lower h.ok.1 (h.eq rfl) hl
  refine ⟨h1, h2, aLo_lt _ _ _, fun h4 => ?_⟩
  have h5 := add64_law r v1 0
  rw [h4] at h5
  omega
theorem ECar.start {u2 u1 u0 v1 v0 : Nat} (hv : 0 < v1) (h2 : u2 < v1) (h1 : u1 < BB) (h0 : u0 < BB) (hv1 : v1 < BB) : ECar u2 u1 u0 v1 v0 ((u2 * BB + u1) / v1) ((u2 * BB + u1) % v1) 0 := by
  refine ⟨est_start hv h2 h1 h0, Nat.lt_trans (Nat.mod_lt _ hv) hv1, fun _ => ?_⟩
  have := Nat.div_add_mod (u2 * BB + u1) v1
  rw [Nat.mul_comm] at this
  exact this
theorem ECar.top {u2 u1 u0 v1 v0 : Nat} (h2 : u2 = v1) : ECar u2 u1 u0 v1 v0 (BB - 1) (aLo u1 v1 0) (aHi u1 v1 0) := by
  refine ⟨⟨by have := BB_pos; omega, .inl rfl⟩, aLo_lt _ _ _, fun h4 => ?_⟩
  have h5 := add64_law u1 v1 0
  rw [h4] at h5
  obtain ⟨k, hk⟩ : ∃ k, BB = k + 1 := ⟨BB - 1, by have := BB_pos; omega⟩
  rw [h2, hk, Nat.add_sub_cancel, Nat.mul_add, Nat.mul_comm k]
  omega
/-- The test of a guess. -/
theorem est_test {r u0 d v0 : Nat} (hu : u0 < BB) : (mHi d v0 < r ∨ (mHi d v0 = r ∧ mLo d v0 ≤ u0)) ∨ (r * BB + u0 < d * v0 ∧ ¬ mHi d v0 < r ∧ (mHi d v0 = r → ¬ mLo d v0 ≤ u0)) := by
  have h1 := mul64_law d v0
  have h2 := mLo_lt d v0
  generalize mHi d v0 = p at *
  generalize mLo d v0 = q at *
  by_cases c1 : p < r
  · exact .inl (.inl c1)
  · by_cases c2 : p = r
    · by_cases c3 : q ≤ u0
      · exact .inl (.inr ⟨c2, c3⟩)
      · refine .inr ⟨?_, c1, fun _ => c3⟩
        rw [← h1, c2, Nat.mul_comm BB]
        omega
    · refine .inr ⟨?_, c1, fun h => absurd h c2⟩
      have h3 : (r + 1) * BB ≤ p * BB := Nat.mul_le_mul_right _ (by omega)
      rw [Nat.add_mul, Nat.one_mul] at h3
      rw [← h1, Nat.mul_comm BB]
      omega

set_option maxHeartbeats 1600000 in
set_option maxRecDepth 100000 in
theorem estimate_any (u2 u1 u0 v1 v0 : Nat) (h2 : Hid (u2 ≤ v1)) (l1 : Hid (u1 < BB)) (l0 : Hid (u0 < BB)) (lv1 : Hid (v1 < BB)) (lv0 : Hid (v0 < BB)) (hv : Hid (0 < v1)) (w : World) :
    Calls Tryd.prog 82 #[.int .u64 (u2 : Int), .int .u64 (u1 : Int), .int .u64 (u0 : Int), .int .u64 (v1 : Int), .int .u64 (v0 : Int)] w fun e w' => ∃ d : Nat, e = .returned (.int .u64 (d : Int)) ∧ EstOk u2 u1 u0 v1 v0 d ∧ Only [] w w' := by
  by_cases hlt : u2 < v1
  · have hi : (u2 : Int) < (v1 : Int) := by omega
    have HL := Lib.hid hlt
    have HSt : Hid _ := ECar.start (u0 := u0) (v0 := v0) hv.out hlt l1.out l0.out lv1.out
    clear hlt
    go_enter Tryd.func82, Tryd.ntmps82
    go_wp2_with fail
    refine (div64_any u2 u1 v1 HL l1 lv1 _).mono ?_
    rintro e wd ⟨rfl, hO0⟩
    have HO0 : Hid (Only [] w wd) := hO0
    clear hO0
    generalize (u2 * BB + u1) / v1 = d0 at *
    generalize (u2 * BB + u1) % v1 = r0 at *
    go_wp2_with fail
    go_loopw [11, 12, 13] (fun dv rv ov wr => ∃ d r o : Nat, dv = .int .u64 (d : Int) ∧ rv = .int .u64 (r : Int) ∧ ov = .int .u64 (o : Int) ∧ ECar u2 u1 u0 v1 v0 d r o ∧ Only [] w wr) (fun dv _ _ _ => (intOf dv).toNat)
    case atStart => exact ⟨_, _, _, rfl, rfl, rfl, HSt.out, HO0.out⟩
    case round =>
      obtain ⟨d, r, o, rfl, rfl, rfl, hR, hO⟩ := hrel
      have HR := Lib.hid hR
      have HO := Lib.hid hO
      clear hR hO
      by_cases ho : o = 0
      · subst ho
        obtain hb | ⟨hl, hb1, hb2⟩ := est_test (r := r) (d := d) (v0 := v0) l0.out
        · have HP : Hid (mHi d v0 < r ∨ (mHi d v0 = r ∧ mLo d v0 ≤ u0)) := hb
          clear hb
          go_wp2_with fail
          refine (mul64_any d v0 HR.out.ok.1 lv0.out _).mono ?_
          rintro e w' ⟨rfl, rfl⟩
          rcases HP.out with hb | ⟨hb, hc⟩
          · have hb' : (mHi d v0 : Int) < (r : Int) := by omega
            clear hb
            go_wp2_with fail
            go_ret
            exact ⟨_, rfl, HR.out.ok, HO.out⟩
          · have hb' : ((mHi d v0 : Nat) : Int) = (r : Int) := by omega
            have hn : ¬ (r : Int) < (r : Int) := by omega
            have hc' : (mLo d v0 : Int) ≤ (u0 : Int) := by omega
            clear hb hc
            rw [hb']
            go_wp2_with fail
            go_ret
            exact ⟨_, rfl, HR.out.ok, HO.out⟩
        · obtain ⟨hd0, hN⟩ := HR.out.lower hl
          have HN := Lib.hid hN
          have hw1 : IntKind.u64.wrap ((d : Int) - 1) = ((d - 1 : Nat) : Int) := u64_dec hd0 HR.out.ok.1
          have ha : ∀ wx, (callFunc 98 #[.int .u64 (r : Int), .int .u64 (v1 : Int), .int .u64 0]).run Tryd.prog wx = .ok (.value (.tuple #[.int .u64 ((aLo r v1 0 : Nat) : Int), .int .u64 ((aHi r v1 0 : Nat) : Int)])) wx := fun wx => add64_run r v1 0 HR.out.rl lv1.out (by omega) wx
          have hb1' : ¬ (mHi d v0 : Int) < (r : Int) := by omega
          have HB2 := Lib.hid hb2
          clear hN hl hb1 hb2
          go_wp2_with fail
          refine (mul64_any d v0 HR.out.ok.1 lv0.out _).mono ?_
          rintro e w' ⟨rfl, rfl⟩
          by_cases hb : mHi d v0 = r
          · have hc' : ¬ (mLo d v0 : Int) ≤ (u0 : Int) := by have := HB2.out hb; omega
            have hb' : ((mHi d v0 : Nat) : Int) = (r : Int) := by omega
            rw [hb'] at hb1'
            rw [hb']
            clear hb
            go_wp2_with fail
            go_roundw
            case rel => exact ⟨_, _, _, rfl, rfl, rfl, HN.out, HO.out⟩
            case measure => simp [intOf]; omega
          · have hb' : (((mHi d v0 : Nat) : Int) == (r : Int)) = false := by simp; omega
            have hb2' : ¬ ((mHi d v0 : Nat) : Int) = (r : Int) := by omega
            clear hb
            go_wp2_with fail
            go_roundw
            case rel => exact ⟨_, _, _, rfl, rfl, rfl, HN.out, HO.out⟩
            case measure => simp [intOf]; omega
      · have hoi : ((o : Int) == 0) = false := by simp; omega
        have hoi2 : ¬ ((o : Int) = 0) := by omega
        clear ho
        go_wp2_with fail
        go_ret
        exact ⟨_, rfl, HR.out.ok, HO.out⟩
  · have hi : ¬ (u2 : Int) < (v1 : Int) := by omega
    have HSt : Hid _ := ECar.top (u1 := u1) (u0 := u0) (v0 := v0) (show u2 = v1 by have := h2.out; omega)
    have ha0 : ∀ wx, (callFunc 98 #[.int .u64 (u1 : Int), .int .u64 (v1 : Int), .int .u64 0]).run Tryd.prog wx = .ok (.value (.tuple #[.int .u64 ((aLo u1 v1 0 : Nat) : Int), .int .u64 ((aHi u1 v1 0 : Nat) : Int)])) wx := fun wx => add64_run u1 v1 0 l1.out lv1.out (by omega) wx
    have hmax : (18446744073709551615 : Int) = ((BB - 1 : Nat) : Int) := by rw [BB_val]; rfl
    clear hlt
    go_enter Tryd.func82, Tryd.ntmps82
    go_wp2_with fail
    go_loopw [11, 12, 13] (fun dv rv ov wr => ∃ d r o : Nat, dv = .int .u64 (d : Int) ∧ rv = .int .u64 (r : Int) ∧ ov = .int .u64 (o : Int) ∧ ECar u2 u1 u0 v1 v0 d r o ∧ Only [] w wr) (fun dv _ _ _ => (intOf dv).toNat)
    case atStart => exact ⟨_, _, _, rfl, rfl, rfl, HSt.out, Only.refl _ _⟩
    case round =>
      obtain ⟨d, r, o, rfl, rfl, rfl, hR, hO⟩ := hrel
      have HR := Lib.hid hR
      have HO := Lib.hid hO
      clear hR hO
      by_cases ho : o = 0
      · subst ho
        obtain hb | ⟨hl, hb1, hb2⟩ := est_test (r := r) (d := d) (v0 := v0) l0.out
        · have HP : Hid (mHi d v0 < r ∨ (mHi d v0 = r ∧ mLo d v0 ≤ u0)) := hb
          clear hb
          go_wp2_with fail
          refine (mul64_any d v0 HR.out.ok.1 lv0.out _).mono ?_
          rintro e w' ⟨rfl, rfl⟩
          rcases HP.out with hb | ⟨hb, hc⟩
          · have hb' : (mHi d v0 : Int) < (r : Int) := by omega
            clear hb
            go_wp2_with fail
            go_ret
            exact ⟨_, rfl, HR.out.ok, HO.out⟩
          · have hb' : ((mHi d v0 : Nat) : Int) = (r : Int) := by omega
            have hn : ¬ (r : Int) < (r : Int) := by omega
            have hc' : (mLo d v0 : Int) ≤ (u0 : Int) := by omega
            clear hb hc
            rw [hb']
            go_wp2_with fail
            go_ret
            exact ⟨_, rfl, HR.out.ok, HO.out⟩
        · obtain ⟨hd0, hN⟩ := HR.out.lower hl
          have HN := Lib.hid hN
          have hw1 : IntKind.u64.wrap ((d : Int) - 1) = ((d - 1 : Nat) : Int) := u64_dec hd0 HR.out.ok.1
          have ha : ∀ wx, (callFunc 98 #[.int .u64 (r : Int), .int .u64 (v1 : Int), .int .u64 0]).run Tryd.prog wx = .ok (.value (.tuple #[.int .u64 ((aLo r v1 0 : Nat) : Int), .int .u64 ((aHi r v1 0 : Nat) : Int)])) wx := fun wx => add64_run r v1 0 HR.out.rl lv1.out (by omega) wx
          have hb1' : ¬ (mHi d v0 : Int) < (r : Int) := by omega
          have HB2 := Lib.hid hb2
          clear hN hl hb1 hb2
          go_wp2_with fail
          refine (mul64_any d v0 HR.out.ok.1 lv0.out _).mono ?_
          rintro e w' ⟨rfl, rfl⟩
          by_cases hb : mHi d v0 = r
          · have hc' : ¬ (mLo d v0 : Int) ≤ (u0 : Int) := by have := HB2.out hb; omega
            have hb' : ((mHi d v0 : Nat) : Int) = (r : Int) := by omega
            rw [hb'] at hb1'
            rw [hb']
            clear hb
            go_wp2_with fail
            go_roundw
            case rel => exact ⟨_, _, _, rfl, rfl, rfl, HN.out, HO.out⟩
            case measure => simp [intOf]; omega
          · have hb' : (((mHi d v0 : Nat) : Int) == (r : Int)) = false := by simp; omega
            have hb2' : ¬ ((mHi d v0 : Nat) : Int) = (r : Int) := by omega
            clear hb
            go_wp2_with fail
            go_roundw
            case rel => exact ⟨_, _, _, rfl, rfl, rfl, HN.out, HO.out⟩
            case measure => simp [intOf]; omega
      · have hoi : ((o : Int) == 0) = false := by simp; omega
        have hoi2 : ¬ ((o : Int) = 0) := by omega
        clear ho
        go_wp2_with fail
        go_ret
        exact ⟨_, rfl, HR.out.ok, HO.out⟩
end Go.Proofs.YtphjcphcgnjogaaDoor
