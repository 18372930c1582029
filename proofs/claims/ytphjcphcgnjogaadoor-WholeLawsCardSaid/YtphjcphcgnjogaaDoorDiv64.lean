/-
  math/bits' Div64.
-/
import Derived.Test.YtphjcphcgnjogaaDoorNatE
import Derived.Test.YtphjcphcgnjogaaDoorValE
namespace Go.Proofs.YtphjcphcgnjogaaDoor
open Go.RowKit

theorem lead64_any (x : Nat) (hx : x < BB) (w : World) : Calls Tryd.prog 81 #[.int .u64 (x : Int)] w fun e w' => e = .returned (.int .i64 (64 - (Lib.bitLen x : Int))) ∧ w = w' := by
  rw [BB_val] at hx
  refine (Tryd.bits_LeadingZeros64 (x : Int) w (by omega) (by omega)).mono ?_
  rintro e w' ⟨he, hw⟩
  rw [Int.toNat_natCast] at he
  exact ⟨he, hw.symm⟩

theorem u64_dec {a : Nat} (h : 0 < a) (ha : a < BB) : IntKind.u64.wrap ((a : Int) - 1) = ((a - 1 : Nat) : Int) := by
  rw [show ((a : Int) - 1) = ((a - 1 : Nat) : Int) by omega]
  exact u64_wrap (by omega)
theorem u64_mul {a b c : Nat} (h : a * b = c) (hc : c < BB) : IntKind.u64.wrap ((a : Int) * (b : Int)) = (c : Int) := by
  rw [← Int.natCast_mul, h]
  exact u64_wrap hc
theorem half_prod {a b : Nat} (ha : a < 4294967296) (hb : b < 4294967296) : a * b < BB := by
  have h : a * b ≤ 4294967295 * 4294967295 := Nat.mul_le_mul (by omega) (by omega)
  rw [BB_val]
  omega

theorem d64_join {a b Q : Nat} (h : a * 4294967296 + b = Q) (hQ : Q < BB) : IntKind.u64.wrap (IntKind.u64.wrap ((a : Int) * 4294967296) + (b : Int)) = (Q : Int) := by
  rw [BB_val] at hQ
  rw [IntKind.wrap_u64, IntKind.wrap_u64]
  omega

set_option maxHeartbeats 3200000 in
set_option maxRecDepth 100000 in
theorem div64_any (hi lo y : Nat) (hh : Hid (hi < y)) (hl : Hid (lo < BB)) (hy : Hid (y < BB)) (w : World) :
    Calls Tryd.prog 80 #[.int .u64 (hi : Int), .int .u64 (lo : Int), .int .u64 (y : Int)] w fun e w' => e = .returned (.tuple #[.int .u64 (((hi * BB + lo) / y : Nat) : Int), .int .u64 (((hi * BB + lo) % y : Nat) : Int)]) ∧ Only [] w w' := by
  have g1 : ((y : Int) == 0) = false := by have := hh.out; simp; omega
  have g2 : (hi : Int) < (y : Int) := by have := hh.out; omega
  by_cases h0 : hi = 0
  · have HE : Hid (hi * BB + lo = lo) := by show _ = _; rw [h0, Nat.zero_mul, Nat.zero_add]
    have g3 : ((hi : Int) == 0) = true := by simp [h0]
    have g4 : (1 : Int) ≤ (y : Int) := by omega
    have hlo := hl.out
    rw [BB_val] at hlo
    have hq1 : Hid (IntKind.u64.wrap ((lo : Int) / (y : Int)) = ((lo / y : Nat) : Int)) := by
      show _ = _
      rw [← Int.natCast_ediv]
      exact u64_wrap (Nat.lt_of_le_of_lt (Nat.div_le_self _ _) hl.out)
    clear h0 hlo
    go_enter Tryd.func80, Tryd.ntmps80
    go_wp2_with fail
    go_quiet (fail)
    go_wp2_with fail
    go_ret2
    exact ⟨by rw [HE.out, ← hq1.out]; rfl, (Only.refl _ _).drewN _⟩
  · have g3 : ((hi : Int) == 0) = false := by simp; omega
    clear h0
    have HQB : Hid ((hi * BB + lo) / y < BB) := by
      show _ < _
      rw [Nat.div_lt_iff_lt_mul (by have := hh.out; omega)]
      have h1 := Nat.mul_le_mul_right BB (show hi + 1 ≤ y from hh.out)
      rw [Nat.succ_mul, Nat.mul_comm y] at h1
      have := hl.out
      rw [Nat.mul_comm BB y]
      rw [Nat.mul_comm BB y] at h1
      omega
    obtain ⟨Qf, hQf⟩ : ∃ Qf, (hi * BB + lo) / y = Qf := ⟨_, rfl⟩
    obtain ⟨Rf, hRf⟩ : ∃ Rf, (hi * BB + lo) % y = Rf := ⟨_, rfl⟩
    rw [hQf] at HQB ⊢
    rw [hRf]
    go_enter Tryd.func80, Tryd.ntmps80
    go_wp2_with fail
    refine (lead64_any y hy.out w).mono ?_
    rintro e w' ⟨rfl, rfl⟩
    obtain ⟨k1, k2, k3, k4⟩ := lead_norm (y := y) (by have := hh.out; omega) hy.out
    obtain ⟨s, hs⟩ : ∃ s, 64 - Lib.bitLen y = s := ⟨_, rfl⟩
    rw [hs] at k1 k3 k4
    rw [show (64 - (Lib.bitLen y : Int)) = (s : Int) by omega]
    obtain ⟨Y, y1, y0, h1, l1, u, n, d1, d0, hD⟩ := d64_facts hh.out hl.out k1 k3 k4
    have HD := Lib.hid hD
    have HQ := Lib.hid (d64_end hD)
    rw [hQf, hRf] at HQ
    clear hQf hRf
    have HYp : Hid (0 < Y) := by have := hD.lu; show 0 < Y; omega
    obtain ⟨e1, e2, e3, e4, e5, e6, e7, e8, e9, -, -, -, -, -, -, -, -, -, -, -⟩ := hD
    have hs63 : (s : Int) ≤ 63 := by omega
    have hy1 : (1 : Int) ≤ (y1 : Int) := by have := HD.out.lh; omega
    have huB : u < BB := Nat.lt_trans HD.out.lu HD.out.lY
    have HS1 : Hid (Dig 4294967296 u y1 y0 d1 (u / y1) (u - u / y1 * y1)) := dig_start (by have := HD.out.lh; omega) (by have := HD.out.lu; have := HD.out.fY; omega) (by have := HD.out.lh; have := HD.out.l0; omega) HD.out.ld1
    have hmul := Nat.div_mul_le_self u y1
    have e10 : IntKind.u64.wrap ((u : Int).tdiv (y1 : Int)) = ((u / y1 : Nat) : Int) := by
      rw [Int.tdiv_eq_ediv_of_nonneg (by omega), ← Int.natCast_ediv]
      exact u64_wrap (Nat.lt_of_le_of_lt (Nat.div_le_self _ _) huB)
    have e10b : IntKind.u64.wrap ((u : Int) / (y1 : Int)) = ((u / y1 : Nat) : Int) := by
      rw [← Int.natCast_ediv]
      exact u64_wrap (Nat.lt_of_le_of_lt (Nat.div_le_self _ _) huB)
    have e11 : IntKind.u64.wrap (((u / y1 : Nat) : Int) * (y1 : Int)) = ((u / y1 * y1 : Nat) : Int) := u64_mul rfl (Nat.lt_of_le_of_lt hmul huB)
    have e12 : IntKind.u64.wrap ((u : Int) - ((u / y1 * y1 : Nat) : Int)) = ((u - u / y1 * y1 : Nat) : Int) := by
      rw [show ((u : Int) - ((u / y1 * y1 : Nat) : Int)) = ((u - u / y1 * y1 : Nat) : Int) by omega]
      exact u64_wrap (Nat.lt_of_le_of_lt (Nat.sub_le _ _) huB)
    have HR1 : Hid (u - u / y1 * y1 < 4294967296) := by
      have h3 := Nat.div_add_mod u y1
      have h4 := Nat.mod_lt u (show 0 < y1 by omega)
      rw [Nat.mul_comm] at h3
      have := HD.out.ll
      show _ < _
      omega
    generalize u / y1 * y1 = p1 at e11 e12 HS1 HR1
    generalize u / y1 = q1 at e10 e10b e11 HS1
    generalize u - p1 = r1 at e12 HS1 HR1
    clear hs k1 k2 k3 k4 hmul huB
    obtain ⟨Q1, hQ1⟩ : ∃ Q1, (u * 4294967296 + d1) / Y = Q1 := ⟨_, rfl⟩
    have HQe : Hid ((u * 4294967296 + d1) / (y1 * 4294967296 + y0) = Q1) := by show _ = _; rw [← HD.out.fY]; exact hQ1
    have hY0 : Hid (0 < y1 * 4294967296 + y0) := by show 0 < _; rw [← HD.out.fY]; exact HYp.out
    have HU1 : Hid (u < y1 * 4294967296 + y0) := by show _ < _; rw [← HD.out.fY]; exact HD.out.lu
    have HQ1 := Lib.hid hQ1
    clear hQ1
    obtain ⟨v1, v2, v3, f1, f2, f3, f4⟩ := wrap_digit HYp.out HD.out.lY HQ1.out.symm
    obtain ⟨R1, hR1⟩ : ∃ R1, (u * 4294967296 + d1) % Y = R1 := ⟨_, rfl⟩
    have HRY : Hid (R1 < Y) := by show _ < _; rw [← hR1]; exact Nat.mod_lt _ HYp.out
    have hQ := HQ.out
    rw [HQ1.out, hR1] at hQ
    clear HQ
    have HQ := Lib.hid hQ
    clear hQ
    rw [hR1] at f4
    clear hR1
    have HU2 : Hid (R1 < y1 * 4294967296 + y0) := by show _ < _; rw [← HD.out.fY]; exact HRY.out
    have hRB : R1 < BB := Nat.lt_trans HRY.out HD.out.lY
    have HS2 : Hid (Dig 4294967296 R1 y1 y0 d0 (R1 / y1) (R1 - R1 / y1 * y1)) := dig_start (by have := HD.out.lh; omega) (by have := HRY.out; have := HD.out.fY; omega) (by have := HD.out.lh; have := HD.out.l0; omega) HD.out.ld0
    have hmul2 := Nat.div_mul_le_self R1 y1
    have e20 : IntKind.u64.wrap ((R1 : Int) / (y1 : Int)) = ((R1 / y1 : Nat) : Int) := by
      rw [← Int.natCast_ediv]
      exact u64_wrap (Nat.lt_of_le_of_lt (Nat.div_le_self _ _) hRB)
    have e21 : IntKind.u64.wrap (((R1 / y1 : Nat) : Int) * (y1 : Int)) = ((R1 / y1 * y1 : Nat) : Int) := u64_mul rfl (Nat.lt_of_le_of_lt hmul2 hRB)
    have e22 : IntKind.u64.wrap ((R1 : Int) - ((R1 / y1 * y1 : Nat) : Int)) = ((R1 - R1 / y1 * y1 : Nat) : Int) := by
      rw [show ((R1 : Int) - ((R1 / y1 * y1 : Nat) : Int)) = ((R1 - R1 / y1 * y1 : Nat) : Int) by omega]
      exact u64_wrap (Nat.lt_of_le_of_lt (Nat.sub_le _ _) hRB)
    have HR2 : Hid (R1 - R1 / y1 * y1 < 4294967296) := by
      have h3 := Nat.div_add_mod R1 y1
      have h4 := Nat.mod_lt R1 (show 0 < y1 by omega)
      rw [Nat.mul_comm] at h3
      have := HD.out.ll
      show _ < _
      omega
    generalize R1 / y1 * y1 = p2 at e21 e22 HS2 HR2
    generalize R1 / y1 = q2 at e20 e21 HS2
    generalize R1 - p2 = r2 at e22 HS2 HR2
    clear hmul2 hRB
    obtain ⟨Q2, hQ2⟩ : ∃ Q2, (R1 * 4294967296 + d0) / Y = Q2 := ⟨_, rfl⟩
    have HQe2 : Hid ((R1 * 4294967296 + d0) / (y1 * 4294967296 + y0) = Q2) := by show _ = _; rw [← HD.out.fY]; exact hQ2
    obtain ⟨v4, v5, v6, f5, f6, f7, f8⟩ := wrap_digit HYp.out HD.out.lY hQ2.symm
    obtain ⟨R2, hR2⟩ : ∃ R2, (R1 * 4294967296 + d0) % Y = R2 := ⟨_, rfl⟩
    have hQ := HQ.out
    rw [hQ2, hR2] at hQ
    clear HQ
    have HQ := Lib.hid hQ
    clear hQ
    rw [hR2] at f8
    clear hR2 hQ2
    go_wp2_with fail
    go_loop [15, 16] (fun qv rv => ∃ a b : Nat, qv = .int .u64 (a : Int) ∧ rv = .int .u64 (b : Int) ∧ Dig 4294967296 u y1 y0 d1 a b ∧ b < 4294967296) (fun qv _ => (intOf qv).toNat)
    case atStart => exact ⟨_, _, rfl, rfl, HS1.out, HR1.out⟩
    case round =>
      obtain ⟨a, b, rfl, rfl, hd, hb⟩ := hrel
      have HDg := Lib.hid hd
      have HBl := Lib.hid hb
      clear hd hb
      by_cases hqa : 4294967296 ≤ a
      · obtain ⟨p0, HDn⟩ := dig_lower HDg.out hY0.out (.inl hqa) HU1.out HD.out.ld1
        have hqi : (4294967296 : Int) ≤ (a : Int) := by omega
        clear hqa
        obtain ⟨a', ha'⟩ : ∃ a', a - 1 = a' := ⟨_, rfl⟩
        obtain ⟨b', hb'⟩ : ∃ b', b + y1 = b' := ⟨_, rfl⟩
        have hw1 := u64_dec p0 (Nat.lt_of_le_of_lt HDg.out.le (by rw [BB_val]; omega))
        have hw2 : IntKind.u64.wrap ((b : Int) + (y1 : Int)) = (b' : Int) := u64_add hb' (by rw [BB_val]; have := HBl.out; have := HD.out.ll; omega)
        rw [ha'] at hw1 HDn
        rw [hb'] at HDn
        have HDn := Lib.hid HDn
        have ha2 : a' ≤ 4294967296 := by have := HDg.out.le; omega
        have ha3 : a' < a := by omega
        clear ha' hb'
        by_cases hbr : 4294967296 ≤ b'
        · have hE : a' = Q1 := (dig_done HDn.out hY0.out (dig_break ha2 HD.out.l0 hbr)).trans HQe.out
          subst hE
          have hbi : (4294967296 : Int) ≤ (b' : Int) := by omega
          clear hbr ha2 ha3 HDn HDg HBl p0
          go_wp2_with fail
          clear hw1 hw2 hbi
          go_wp2_with fail
          go_loop [18, 16] (fun qv rv => ∃ a b : Nat, qv = .int .u64 (a : Int) ∧ rv = .int .u64 (b : Int) ∧ Dig 4294967296 R1 y1 y0 d0 a b ∧ b < 4294967296) (fun qv _ => (intOf qv).toNat)
          case atStart => exact ⟨_, _, rfl, rfl, HS2.out, HR2.out⟩
          case round =>
            obtain ⟨a, b, rfl, rfl, hd, hb⟩ := hrel
            have HDg := Lib.hid hd
            have HBl := Lib.hid hb
            clear hd hb
            by_cases hqa : 4294967296 ≤ a
            · obtain ⟨p0, HDn⟩ := dig_lower HDg.out hY0.out (.inl hqa) HU2.out HD.out.ld0
              have hqi : (4294967296 : Int) ≤ (a : Int) := by omega
              clear hqa
              obtain ⟨a', ha'⟩ : ∃ a', a - 1 = a' := ⟨_, rfl⟩
              obtain ⟨b', hb'⟩ : ∃ b', b + y1 = b' := ⟨_, rfl⟩
              have hw1 := u64_dec p0 (Nat.lt_of_le_of_lt HDg.out.le (by rw [BB_val]; omega))
              have hw2 : IntKind.u64.wrap ((b : Int) + (y1 : Int)) = (b' : Int) := u64_add hb' (by rw [BB_val]; have := HBl.out; have := HD.out.ll; omega)
              rw [ha'] at hw1 HDn
              rw [hb'] at HDn
              have HDn := Lib.hid HDn
              have ha2 : a' ≤ 4294967296 := by have := HDg.out.le; omega
              have ha3 : a' < a := by omega
              clear ha' hb'
              by_cases hbr : 4294967296 ≤ b'
              · have hE : a' = Q2 := (dig_done HDn.out hY0.out (dig_break ha2 HD.out.l0 hbr)).trans HQe2.out
                subst hE
                have hbi : (4294967296 : Int) ≤ (b' : Int) := by omega
                clear hbr ha2 ha3 HDn HDg HBl p0
                go_wp2_with fail
                clear hw1 hw2 hbi
                have hj := d64_join HQ.out.1 HQB.out
                have hk : (R2 : Int) / 2 ^ s = (Rf : Int) := by rw [← HQ.out.2]; simp
                go_wp2_with fail
                go_ret2
                exact ⟨by rw [← hj, ← hk]; rfl, Only.refl _ _⟩
              · have hbi : ¬ (4294967296 : Int) ≤ (b' : Int) := by omega
                go_wp2_with fail
                go_round
                case rel => exact ⟨a', b', rfl, rfl, HDn.out, by omega⟩
                case measure => simp [intOf]; omega
            · have hqi : ¬ (4294967296 : Int) ≤ (a : Int) := by omega
              have hw3 : IntKind.u64.wrap ((a : Int) * (y0 : Int)) = ((a * y0 : Nat) : Int) := u64_mul rfl (half_prod (by omega) HD.out.l0)
              have hw4 : IntKind.u64.wrap (4294967296 * (b : Int)) = ((4294967296 * b : Nat) : Int) := by
                rw [show (4294967296 : Int) * (b : Int) = ((4294967296 * b : Nat) : Int) by simp]
                exact u64_wrap (by rw [BB_val]; have := HBl.out; omega)
              have hw5 : IntKind.u64.wrap (((4294967296 * b : Nat) : Int) + (d0 : Int)) = ((4294967296 * b + d0 : Nat) : Int) := u64_add rfl (by rw [BB_val]; have := HBl.out; have := HD.out.ld0; omega)
              obtain ⟨m1, hm1⟩ : ∃ m1, a * y0 = m1 := ⟨_, rfl⟩
              obtain ⟨m2, hm2⟩ : ∃ m2, 4294967296 * b = m2 := ⟨_, rfl⟩
              obtain ⟨m3, hm3⟩ : ∃ m3, m2 + d0 = m3 := ⟨_, rfl⟩
              rw [hm1] at hw3
              rw [hm2] at hw4 hw5
              rw [hm3] at hw5
              by_cases hgt : m3 < m1
              · obtain ⟨p0, HDn⟩ := dig_lower HDg.out hY0.out (.inr (by rw [hm2, hm3, hm1]; exact hgt)) HU2.out HD.out.ld0
                have hgi : (m3 : Int) < (m1 : Int) := by omega
                clear hm1 hm2 hm3 hgt
                obtain ⟨a', ha'⟩ : ∃ a', a - 1 = a' := ⟨_, rfl⟩
                obtain ⟨b', hb'⟩ : ∃ b', b + y1 = b' := ⟨_, rfl⟩
                have hw1 := u64_dec p0 (Nat.lt_of_le_of_lt HDg.out.le (by rw [BB_val]; omega))
                have hw2 : IntKind.u64.wrap ((b : Int) + (y1 : Int)) = (b' : Int) := u64_add hb' (by rw [BB_val]; have := HBl.out; have := HD.out.ll; omega)
                rw [ha'] at hw1 HDn
                rw [hb'] at HDn
                have HDn := Lib.hid HDn
                have ha2 : a' ≤ 4294967296 := by have := HDg.out.le; omega
                have ha3 : a' < a := by omega
                clear ha' hb'
                by_cases hbr : 4294967296 ≤ b'
                · have hE : a' = Q2 := (dig_done HDn.out hY0.out (dig_break ha2 HD.out.l0 hbr)).trans HQe2.out
                  subst hE
                  have hbi : (4294967296 : Int) ≤ (b' : Int) := by omega
                  clear hbr ha2 ha3 HDn HDg HBl p0
                  go_wp2_with fail
                  clear hw1 hw2 hbi
                  have hj := d64_join HQ.out.1 HQB.out
                  have hk : (R2 : Int) / 2 ^ s = (Rf : Int) := by rw [← HQ.out.2]; simp
                  go_wp2_with fail
                  go_ret2
                  exact ⟨by rw [← hj, ← hk]; rfl, Only.refl _ _⟩
                · have hbi : ¬ (4294967296 : Int) ≤ (b' : Int) := by omega
                  go_wp2_with fail
                  go_round
                  case rel => exact ⟨a', b', rfl, rfl, HDn.out, by omega⟩
                  case measure => simp [intOf]; omega
              · have hE : a = Q2 := (dig_done HDg.out hY0.out (by rw [hm2, hm3, hm1]; omega)).trans HQe2.out
                subst hE
                have hgi : ¬ (m3 : Int) < (m1 : Int) := by omega
                clear hm1 hm2 hm3 hgt hqa HDg HBl
                go_wp2_with fail
                clear hqi hgi hw3 hw4 hw5
                have hj := d64_join HQ.out.1 HQB.out
                have hk : (R2 : Int) / 2 ^ s = (Rf : Int) := by rw [← HQ.out.2]; simp
                go_wp2_with fail
                go_ret2
                exact ⟨by rw [← hj, ← hk]; rfl, Only.refl _ _⟩
        · have hbi : ¬ (4294967296 : Int) ≤ (b' : Int) := by omega
          go_wp2_with fail
          go_round
          case rel => exact ⟨a', b', rfl, rfl, HDn.out, by omega⟩
          case measure => simp [intOf]; omega
      · have hqi : ¬ (4294967296 : Int) ≤ (a : Int) := by omega
        have hw3 : IntKind.u64.wrap ((a : Int) * (y0 : Int)) = ((a * y0 : Nat) : Int) := u64_mul rfl (half_prod (by omega) HD.out.l0)
        have hw4 : IntKind.u64.wrap (4294967296 * (b : Int)) = ((4294967296 * b : Nat) : Int) := by
          rw [show (4294967296 : Int) * (b : Int) = ((4294967296 * b : Nat) : Int) by simp]
          exact u64_wrap (by rw [BB_val]; have := HBl.out; omega)
        have hw5 : IntKind.u64.wrap (((4294967296 * b : Nat) : Int) + (d1 : Int)) = ((4294967296 * b + d1 : Nat) : Int) := u64_add rfl (by rw [BB_val]; have := HBl.out; have := HD.out.ld1; omega)
        obtain ⟨m1, hm1⟩ : ∃ m1, a * y0 = m1 := ⟨_, rfl⟩
        obtain ⟨m2, hm2⟩ : ∃ m2, 4294967296 * b = m2 := ⟨_, rfl⟩
        obtain ⟨m3, hm3⟩ : ∃ m3, m2 + d1 = m3 := ⟨_, rfl⟩
        rw [hm1] at hw3
        rw [hm2] at hw4 hw5
        rw [hm3] at hw5
        by_cases hgt : m3 < m1
        · obtain ⟨p0, HDn⟩ := dig_lower HDg.out hY0.out (.inr (by rw [hm2, hm3, hm1]; exact hgt)) HU1.out HD.out.ld1
          have hgi : (m3 : Int) < (m1 : Int) := by omega
          clear hm1 hm2 hm3 hgt
          obtain ⟨a', ha'⟩ : ∃ a', a - 1 = a' := ⟨_, rfl⟩
          obtain ⟨b', hb'⟩ : ∃ b', b + y1 = b' := ⟨_, rfl⟩
          have hw1 := u64_dec p0 (Nat.lt_of_le_of_lt HDg.out.le (by rw [BB_val]; omega))
          have hw2 : IntKind.u64.wrap ((b : Int) + (y1 : Int)) = (b' : Int) := u64_add hb' (by rw [BB_val]; have := HBl.out; have := HD.out.ll; omega)
          rw [ha'] at hw1 HDn
          rw [hb'] at HDn
          have HDn := Lib.hid HDn
          have ha2 : a' ≤ 4294967296 := by have := HDg.out.le; omega
          have ha3 : a' < a := by omega
          clear ha' hb'
          by_cases hbr : 4294967296 ≤ b'
          · have hE : a' = Q1 := (dig_done HDn.out hY0.out (dig_break ha2 HD.out.l0 hbr)).trans HQe.out
            subst hE
            have hbi : (4294967296 : Int) ≤ (b' : Int) := by omega
            clear hbr ha2 ha3 HDn HDg HBl p0
            go_wp2_with fail
            clear hw1 hw2 hbi
            go_wp2_with fail
            go_loop [18, 16] (fun qv rv => ∃ a b : Nat, qv = .int .u64 (a : Int) ∧ rv = .int .u64 (b : Int) ∧ Dig 4294967296 R1 y1 y0 d0 a b ∧ b < 4294967296) (fun qv _ => (intOf qv).toNat)
            case atStart => exact ⟨_, _, rfl, rfl, HS2.out, HR2.out⟩
            case round =>
              obtain ⟨a, b, rfl, rfl, hd, hb⟩ := hrel
              have HDg := Lib.hid hd
              have HBl := Lib.hid hb
              clear hd hb
              by_cases hqa : 4294967296 ≤ a
              · obtain ⟨p0, HDn⟩ := dig_lower HDg.out hY0.out (.inl hqa) HU2.out HD.out.ld0
                have hqi : (4294967296 : Int) ≤ (a : Int) := by omega
                clear hqa
                obtain ⟨a', ha'⟩ : ∃ a', a - 1 = a' := ⟨_, rfl⟩
                obtain ⟨b', hb'⟩ : ∃ b', b + y1 = b' := ⟨_, rfl⟩
                have hw1 := u64_dec p0 (Nat.lt_of_le_of_lt HDg.out.le (by rw [BB_val]; omega))
                have hw2 : IntKind.u64.wrap ((b : Int) + (y1 : Int)) = (b' : Int) := u64_add hb' (by rw [BB_val]; have := HBl.out; have := HD.out.ll; omega)
                rw [ha'] at hw1 HDn
                rw [hb'] at HDn
                have HDn := Lib.hid HDn
                have ha2 : a' ≤ 4294967296 := by have := HDg.out.le; omega
                have ha3 : a' < a := by omega
                clear ha' hb'
                by_cases hbr : 4294967296 ≤ b'
                · have hE : a' = Q2 := (dig_done HDn.out hY0.out (dig_break ha2 HD.out.l0 hbr)).trans HQe2.out
                  subst hE
                  have hbi : (4294967296 : Int) ≤ (b' : Int) := by omega
                  clear hbr ha2 ha3 HDn HDg HBl p0
                  go_wp2_with fail
                  clear hw1 hw2 hbi
                  have hj := d64_join HQ.out.1 HQB.out
                  have hk : (R2 : Int) / 2 ^ s = (Rf : Int) := by rw [← HQ.out.2]; simp
                  go_wp2_with fail
                  go_ret2
                  exact ⟨by rw [← hj, ← hk]; rfl, Only.refl _ _⟩
                · have hbi : ¬ (4294967296 : Int) ≤ (b' : Int) := by omega
                  go_wp2_with fail
                  go_round
                  case rel => exact ⟨a', b', rfl, rfl, HDn.out, by omega⟩
                  case measure => simp [intOf]; omega
              · have hqi : ¬ (4294967296 : Int) ≤ (a : Int) := by omega
                have hw3 : IntKind.u64.wrap ((a : Int) * (y0 : Int)) = ((a * y0 : Nat) : Int) := u64_mul rfl (half_prod (by omega) HD.out.l0)
                have hw4 : IntKind.u64.wrap (4294967296 * (b : Int)) = ((4294967296 * b : Nat) : Int) := by
                  rw [show (4294967296 : Int) * (b : Int) = ((4294967296 * b : Nat) : Int) by simp]
                  exact u64_wrap (by rw [BB_val]; have := HBl.out; omega)
                have hw5 : IntKind.u64.wrap (((4294967296 * b : Nat) : Int) + (d0 : Int)) = ((4294967296 * b + d0 : Nat) : Int) := u64_add rfl (by rw [BB_val]; have := HBl.out; have := HD.out.ld0; omega)
                obtain ⟨m1, hm1⟩ : ∃ m1, a * y0 = m1 := ⟨_, rfl⟩
                obtain ⟨m2, hm2⟩ : ∃ m2, 4294967296 * b = m2 := ⟨_, rfl⟩
                obtain ⟨m3, hm3⟩ : ∃ m3, m2 + d0 = m3 := ⟨_, rfl⟩
                rw [hm1] at hw3
                rw [hm2] at hw4 hw5
                rw [hm3] at hw5
                by_cases hgt : m3 < m1
                · obtain ⟨p0, HDn⟩ := dig_lower HDg.out hY0.out (.inr (by rw [hm2, hm3, hm1]; exact hgt)) HU2.out HD.out.ld0
                  have hgi : (m3 : Int) < (m1 : Int) := by omega
                  clear hm1 hm2 hm3 hgt
                  obtain ⟨a', ha'⟩ : ∃ a', a - 1 = a' := ⟨_, rfl⟩
                  obtain ⟨b', hb'⟩ : ∃ b', b + y1 = b' := ⟨_, rfl⟩
                  have hw1 := u64_dec p0 (Nat.lt_of_le_of_lt HDg.out.le (by rw [BB_val]; omega))
                  have hw2 : IntKind.u64.wrap ((b : Int) + (y1 : Int)) = (b' : Int) := u64_add hb' (by rw [BB_val]; have := HBl.out; have := HD.out.ll; omega)
                  rw [ha'] at hw1 HDn
                  rw [hb'] at HDn
                  have HDn := Lib.hid HDn
                  have ha2 : a' ≤ 4294967296 := by have := HDg.out.le; omega
                  have ha3 : a' < a := by omega
                  clear ha' hb'
                  by_cases hbr : 4294967296 ≤ b'
                  · have hE : a' = Q2 := (dig_done HDn.out hY0.out (dig_break ha2 HD.out.l0 hbr)).trans HQe2.out
                    subst hE
                    have hbi : (4294967296 : Int) ≤ (b' : Int) := by omega
                    clear hbr ha2 ha3 HDn HDg HBl p0
                    go_wp2_with fail
                    clear hw1 hw2 hbi
                    have hj := d64_join HQ.out.1 HQB.out
                    have hk : (R2 : Int) / 2 ^ s = (Rf : Int) := by rw [← HQ.out.2]; simp
                    go_wp2_with fail
                    go_ret2
                    exact ⟨by rw [← hj, ← hk]; rfl, Only.refl _ _⟩
                  · have hbi : ¬ (4294967296 : Int) ≤ (b' : Int) := by omega
                    go_wp2_with fail
                    go_round
                    case rel => exact ⟨a', b', rfl, rfl, HDn.out, by omega⟩
                    case measure => simp [intOf]; omega
                · have hE : a = Q2 := (dig_done HDg.out hY0.out (by rw [hm2, hm3, hm1]; omega)).trans HQe2.out
                  subst hE
                  have hgi : ¬ (m3 : Int) < (m1 : Int) := by omega
                  clear hm1 hm2 hm3 hgt hqa HDg HBl
                  go_wp2_with fail
                  clear hqi hgi hw3 hw4 hw5
                  have hj := d64_join HQ.out.1 HQB.out
                  have hk : (R2 : Int) / 2 ^ s = (Rf : Int) := by rw [← HQ.out.2]; simp
                  go_wp2_with fail
                  go_ret2
                  exact ⟨by rw [← hj, ← hk]; rfl, Only.refl _ _⟩
          · have hbi : ¬ (4294967296 : Int) ≤ (b' : Int) := by omega
            go_wp2_with fail
            go_round
            case rel => exact ⟨a', b', rfl, rfl, HDn.out, by omega⟩
            case measure => simp [intOf]; omega
        · have hE : a = Q1 := (dig_done HDg.out hY0.out (by rw [hm2, hm3, hm1]; omega)).trans HQe.out
          subst hE
          have hgi : ¬ (m3 : Int) < (m1 : Int) := by omega
          clear hm1 hm2 hm3 hgt hqa HDg HBl
          go_wp2_with fail
          clear hqi hgi hw3 hw4 hw5
          go_wp2_with fail
          go_loop [18, 16] (fun qv rv => ∃ a b : Nat, qv = .int .u64 (a : Int) ∧ rv = .int .u64 (b : Int) ∧ Dig 4294967296 R1 y1 y0 d0 a b ∧ b < 4294967296) (fun qv _ => (intOf qv).toNat)
          case atStart => exact ⟨_, _, rfl, rfl, HS2.out, HR2.out⟩
          case round =>
            obtain ⟨a, b, rfl, rfl, hd, hb⟩ := hrel
            have HDg := Lib.hid hd
            have HBl := Lib.hid hb
            clear hd hb
            by_cases hqa : 4294967296 ≤ a
            · obtain ⟨p0, HDn⟩ := dig_lower HDg.out hY0.out (.inl hqa) HU2.out HD.out.ld0
              have hqi : (4294967296 : Int) ≤ (a : Int) := by omega
              clear hqa
              obtain ⟨a', ha'⟩ : ∃ a', a - 1 = a' := ⟨_, rfl⟩
              obtain ⟨b', hb'⟩ : ∃ b', b + y1 = b' := ⟨_, rfl⟩
              have hw1 := u64_dec p0 (Nat.lt_of_le_of_lt HDg.out.le (by rw [BB_val]; omega))
              have hw2 : IntKind.u64.wrap ((b : Int) + (y1 : Int)) = (b' : Int) := u64_add hb' (by rw [BB_val]; have := HBl.out; have := HD.out.ll; omega)
              rw [ha'] at hw1 HDn
              rw [hb'] at HDn
              have HDn := Lib.hid HDn
              have ha2 : a' ≤ 4294967296 := by have := HDg.out.le; omega
              have ha3 : a' < a := by omega
              clear ha' hb'
              by_cases hbr : 4294967296 ≤ b'
              · have hE : a' = Q2 := (dig_done HDn.out hY0.out (dig_break ha2 HD.out.l0 hbr)).trans HQe2.out
                subst hE
                have hbi : (4294967296 : Int) ≤ (b' : Int) := by omega
                clear hbr ha2 ha3 HDn HDg HBl p0
                go_wp2_with fail
                clear hw1 hw2 hbi
                have hj := d64_join HQ.out.1 HQB.out
                have hk : (R2 : Int) / 2 ^ s = (Rf : Int) := by rw [← HQ.out.2]; simp
                go_wp2_with fail
                go_ret2
                exact ⟨by rw [← hj, ← hk]; rfl, Only.refl _ _⟩
              · have hbi : ¬ (4294967296 : Int) ≤ (b' : Int) := by omega
                go_wp2_with fail
                go_round
                case rel => exact ⟨a', b', rfl, rfl, HDn.out, by omega⟩
                case measure => simp [intOf]; omega
            · have hqi : ¬ (4294967296 : Int) ≤ (a : Int) := by omega
              have hw3 : IntKind.u64.wrap ((a : Int) * (y0 : Int)) = ((a * y0 : Nat) : Int) := u64_mul rfl (half_prod (by omega) HD.out.l0)
              have hw4 : IntKind.u64.wrap (4294967296 * (b : Int)) = ((4294967296 * b : Nat) : Int) := by
                rw [show (4294967296 : Int) * (b : Int) = ((4294967296 * b : Nat) : Int) by simp]
                exact u64_wrap (by rw [BB_val]; have := HBl.out; omega)
              have hw5 : IntKind.u64.wrap (((4294967296 * b : Nat) : Int) + (d0 : Int)) = ((4294967296 * b + d0 : Nat) : Int) := u64_add rfl (by rw [BB_val]; have := HBl.out; have := HD.out.ld0; omega)
              obtain ⟨m1, hm1⟩ : ∃ m1, a * y0 = m1 := ⟨_, rfl⟩
              obtain ⟨m2, hm2⟩ : ∃ m2, 4294967296 * b = m2 := ⟨_, rfl⟩
              obtain ⟨m3, hm3⟩ : ∃ m3, m2 + d0 = m3 := ⟨_, rfl⟩
              rw [hm1] at hw3
              rw [hm2] at hw4 hw5
              rw [hm3] at hw5
              by_cases hgt : m3 < m1
              · obtain ⟨p0, HDn⟩ := dig_lower HDg.out hY0.out (.inr (by rw [hm2, hm3, hm1]; exact hgt)) HU2.out HD.out.ld0
                have hgi : (m3 : Int) < (m1 : Int) := by omega
                clear hm1 hm2 hm3 hgt
                obtain ⟨a', ha'⟩ : ∃ a', a - 1 = a' := ⟨_, rfl⟩
                obtain ⟨b', hb'⟩ : ∃ b', b + y1 = b' := ⟨_, rfl⟩
                have hw1 := u64_dec p0 (Nat.lt_of_le_of_lt HDg.out.le (by rw [BB_val]; omega))
                have hw2 : IntKind.u64.wrap ((b : Int) + (y1 : Int)) = (b' : Int) := u64_add hb' (by rw [BB_val]; have := HBl.out; have := HD.out.ll; omega)
                rw [ha'] at hw1 HDn
                rw [hb'] at HDn
                have HDn := Lib.hid HDn
                have ha2 : a' ≤ 4294967296 := by have := HDg.out.le; omega
                have ha3 : a' < a := by omega
                clear ha' hb'
                by_cases hbr : 4294967296 ≤ b'
                · have hE : a' = Q2 := (dig_done HDn.out hY0.out (dig_break ha2 HD.out.l0 hbr)).trans HQe2.out
                  subst hE
                  have hbi : (4294967296 : Int) ≤ (b' : Int) := by omega
                  clear hbr ha2 ha3 HDn HDg HBl p0
                  go_wp2_with fail
                  clear hw1 hw2 hbi
                  have hj := d64_join HQ.out.1 HQB.out
                  have hk : (R2 : Int) / 2 ^ s = (Rf : Int) := by rw [← HQ.out.2]; simp
                  go_wp2_with fail
                  go_ret2
                  exact ⟨by rw [← hj, ← hk]; rfl, Only.refl _ _⟩
                · have hbi : ¬ (4294967296 : Int) ≤ (b' : Int) := by omega
                  go_wp2_with fail
                  go_round
                  case rel => exact ⟨a', b', rfl, rfl, HDn.out, by omega⟩
                  case measure => simp [intOf]; omega
              · have hE : a = Q2 := (dig_done HDg.out hY0.out (by rw [hm2, hm3, hm1]; omega)).trans HQe2.out
                subst hE
                have hgi : ¬ (m3 : Int) < (m1 : Int) := by omega
                clear hm1 hm2 hm3 hgt hqa HDg HBl
                go_wp2_with fail
                clear hqi hgi hw3 hw4 hw5
                have hj := d64_join HQ.out.1 HQB.out
                have hk : (R2 : Int) / 2 ^ s = (Rf : Int) := by rw [← HQ.out.2]; simp
                go_wp2_with fail
                go_ret2
                exact ⟨by rw [← hj, ← hk]; rfl, Only.refl _ _⟩
end Go.Proofs.YtphjcphcgnjogaaDoor
