/-
  Joined texts.
-/
import Derived.Test.YtigpnopeacicpaaGreatDoorTnJ18
import Derived.Test.YtigpnopeacicpaaGreatDoorTnGDyA
import Derived.Test.YtigpnopeacicpaaGreatDoorTnJ19
import Derived.Test.YtigpnopeacicpaaGreatDoorTnJ8
import Derived.Laws.Shifts
import Derived.Laws.Bits64b
import Derived.IntWalk
import Derived.Test.YtigpnopeacicpaaGreatDoorTnJ17
import Derived.Test.YtigpnopeacicpaaGreatDoorTnJ15
/-
  The reference's dyads: what a struct reads as.
-/
namespace Go.Proofs.YtigpnopeacicpaaGreatDoor
set_option linter.unusedSimpArgs false
open Go.RowKit

/-- Sign and length as the reference tells them. -/
def Cr (s : Bool) (k : Nat) (z : Int) : Prop := s = decide (z < 0) ∧ k = (R.limbsOf z.natAbs).length
/-- A value that reads as a dyad of the reference's. -/
def RD (w : World) (v : Value) (x : Dy) : Prop := ∃ s A k c, v = .agg #[.bool s, .slice A k c, .int .i64 x.e] ∧ Cr s k x.z ∧ RV w (.slice A k c) x.z.natAbs
theorem RD.only {w w' : World} {v : Value} {x : Dy} (h : RD w v x) (ho : Only [] w w') : RD w' v x := by
  obtain ⟨s, A, k, c, h1, h2, h3⟩ := h
  exact ⟨s, A, k, c, h1, h2, h3.only ho⟩
def isRD (x : Dy) : VP := fun u w => RD w u x
theorem isRD.lasts (x : Dy) : Lasts (isRD x) := fun _ _ _ h ho => h.only ho
theorem all_isRD {x : Dy} {w : World} {K : Value → Prop} (h : ∀ s A k c, Hid (RV w (.slice A k c) x.z.natAbs) → Hid (Cr s k x.z) → K (.agg #[.bool s, .slice A k c, .int .i64 x.e])) : ∀ v, isRD x v w → K v := fun v ⟨s, A, k, c, h1, h2, h3⟩ => by
  subst h1
  exact h s A k c h3 h2
theorem RD.of {x : Dy} {w : World} {s : Bool} {A : Option Addr} {k c : Nat} (h : Hid (RV w (.slice A k c) x.z.natAbs)) (hc : Hid (Cr s k x.z)) : Hid (RD w (.agg #[.bool s, .slice A k c, .int .i64 x.e]) x) := ⟨s, A, k, c, rfl, hc.out, h.out⟩
/-- What a function of the reference's leaves that tells a dyad. -/
def RDP (x : Dy) (w : World) (e : Ending) (w' : World) : Prop := ∃ s A k c, e = .returned (.agg #[.bool s, .slice A k c, .int .i64 x.e]) ∧ Cr s k x.z ∧ RV w' (.slice A k c) x.z.natAbs ∧ Only [] w w'
theorem grow_rd {f : FuncId} {args : Array Value} {w : World} {x : Dy} (h : Calls Tryz.prog f args w (RDP x w)) :
    Calls Tryz.prog f args w fun e w'' => ∃ u, e = .returned u ∧ Only [] w w'' ∧ isRD x u w'' :=
  h.mono fun _ _ ⟨s, A, k, c, he, hs, hv, ho2⟩ => ⟨_, he, ho2, s, A, k, c, rfl, hs, hv⟩
theorem RV.len {w : World} {A : Option Addr} {k c n : Nat} (h : RV w (.slice A k c) n) : k = (R.limbsOf n).length := by
  obtain ⟨A', c', e, _, _⟩ := h
  injection e
theorem RV.farS {w w' : World} {S : List Nat} {A : Option Addr} {k c n : Nat} (h : RV w (.slice A k c) n) (ho : Only S w w') (hf : ∀ g ∈ S, Far g A k) : RV w' (.slice A k c) n := by
  obtain ⟨A', c', e, h2, h3⟩ := h
  injection e with e1 e2 e3
  subst e1 e3
  refine ⟨A, c, by rw [e2], fun j hj => ?_, h3⟩
  obtain ⟨b, o, rfl, hc⟩ := h2 j hj
  exact ⟨b, o, rfl, ho.cell hc (fun hm => hf b hm (by omega) ⟨b, o, none⟩ rfl rfl)⟩
theorem RV.far_blk {w : World} {A : Option Addr} {k c g n : Nat} {t : TypeId} {cs : List Value} (h : RV w (.slice A k c) n) (hb : Blk w g t cs) (hn : NoLimb cs) : Far g A k := fun hk p hp hc => by
  obtain ⟨A', c', e, h2, h3⟩ := h
  injection e with e1 e2 e3
  subst e1
  obtain ⟨b, o, e4, hcell⟩ := h2 0 (by omega)
  rw [hp] at e4
  injection e4 with e4
  subst e4
  have hc2 : b = g := hc
  subst hc2
  rw [hb.cell] at hcell
  exact hn _ _ hcell
/-- A struct's three cells, written behind a result. -/
theorem rdfin {x : Dy} {w w1 w2 : World} {b : Nat} {t : TypeId} {cs : List Value} {s : Bool} {A : Option Addr} {k c : Nat} (hv : Hid (RV w1 (.slice A k c) x.z.natAbs)) (hc : Hid (Cr s k x.z)) (hb : w.heap.size ≤ b) (hB : Blk w1 b t cs) (hn : NoLimb cs) (ho : Only [] w w1) (ho2 : Only [b] w1 w2) :
    RDP x w (.returned (.agg #[.bool s, .slice A k c, .int .i64 x.e])) w2 :=
  ⟨s, A, k, c, rfl, hc.out, hv.out.farS ho2 (fun g hg => by rw [List.mem_singleton] at hg; subst hg; exact hv.out.far_blk hB hn), ho.trans ho2 (fun k hk => .inr (by simp at hk; omega))⟩
theorem few_bits {n : Nat} (h : Few n) : (bitsN n : Int) ≤ 64000000 := by
  have h1 : n < 2 ^ (64 * MX) := by rw [← bb_two_pow]; exact h
  have := bitsN_le h1
  rw [MX_val] at this
  omega
theorem sg_lt {s : Bool} {n : Nat} (h : n ≠ 0) : decide (sg s n < 0) = s := by
  cases s
  · rw [sg_false]; exact decide_eq_false (by omega)
  · rw [sg_true]; exact decide_eq_true (by omega)
/-- Sign and amount of what Make makes. -/
theorem nrm_sg {s : Bool} {n : Nat} (e : Int) (h : n ≠ 0) : nrm (sg s n) e = ⟨sg s (n / 2 ^ lowN n), e + (lowN n : Int)⟩ ∧ s = decide (sg s (n / 2 ^ lowN n) < 0) := by
  have h1 : sg s n ≠ 0 := by cases s <;> simp only [sg_true, sg_false] <;> omega
  have hd : decide (sg s n < 0) = s := sg_lt h
  obtain ⟨m, h2, h3, -⟩ := nrm_split h1
  rw [sg_abs] at h2 h3
  refine ⟨by rw [nrm_nz e h1, hd, sg_abs], ?_⟩
  rw [h3, sg_lt (by omega)]
end Go.Proofs.YtigpnopeacicpaaGreatDoor
/-
  The reference's numbers: how many zero bits one ends with.
-/
namespace Go.Proofs.YtigpnopeacicpaaGreatDoor
open Go.RowKit

theorem rlow_at {xs : List Nat} {i k : Nat} (hi : i < xs.length) (hz : ∀ j, j < i → xs[j]?.getD 0 = 0) (hk : k < 32) (h0 : xs[i]?.getD 0 % 2 ^ k = 0) (h1 : xs[i]?.getD 0 / 2 ^ k % 2 = 1) : lowN (R.val xs) = 32 * i + k := by
  have e1 := R.val_take_drop xs i (by omega)
  have e2 : R.val (xs.take i) = 0 := by
    have : xs.take i = List.replicate i 0 := by
      apply List.ext_getElem
      · simp; omega
      · intro j h1 h2
        simp only [List.getElem_take, List.getElem_replicate]
        simp only [List.length_take, List.length_replicate] at h1 h2
        have := hz j h2
        rw [List.getElem?_eq_getElem (by omega)] at this
        simpa using this
    rw [this, R.val_zeros]
  have e3 := R.val_drop_cons xs i hi
  generalize xs[i]?.getD 0 = x at *
  rw [e2, Nat.zero_add, e3] at e1
  have hp : 0 < 2 ^ k := Nat.pow_pos (by omega)
  have e4 := Nat.div_add_mod x (2 ^ k)
  rw [h0, Nat.add_zero] at e4
  obtain ⟨t, ht⟩ : ∃ t, x / 2 ^ k = 2 * t + 1 := ⟨x / 2 ^ k / 2, by omega⟩
  rw [ht] at e4
  have e5 : R.BB = 2 ^ k * (2 * 2 ^ (31 - k)) := by
    rw [R.BB_pow, Nat.mul_comm 2, ← Nat.pow_succ, ← Nat.pow_add]
    congr 1
    omega
  have e6 : R.val xs = 2 ^ (32 * i + k) * (2 * (t + 2 ^ (31 - k) * R.val (xs.drop (i + 1))) + 1) := by
    rw [e1, ← e4]
    generalize R.val (xs.drop (i + 1)) = v at *
    have e7 : R.BB ^ i = 2 ^ (32 * i) := by rw [R.BB_pow, Nat.pow_mul]
    rw [e7, Nat.pow_add, Nat.mul_assoc]
    congr 1
    rw [e5]
    generalize 2 ^ (31 - k) = u at *
    rw [Nat.mul_assoc, ← Nat.mul_add, Nat.mul_assoc 2 u v]
    congr 1
    omega
  rw [e6, lowN_is]

theorem and_one_u64 (y : Nat) (h : y < 18446744073709551616) : bits .and .u64 (y : Int) 1 = ((y % 2 : Nat) : Int) := by
  have := bits_and_u64_nat y 1 h (by omega)
  rw [Nat.and_one_is_mod] at this
  exact this
set_option maxHeartbeats 1600000 in
set_option maxRecDepth 100000 in
theorem rlow_v {w : World} {a : Value} {m : Nat} (ha : Hid (RV w a m)) (hf : Hid (Few m)) : Calls Tryz.prog 101 #[a] w fun e w' => e = .returned (.int .i64 (lowN m : Int)) ∧ w = w' := by
  have hl := hf.out.digits
  obtain ⟨A, c, rfl, p1, p2⟩ := ha.out
  have HX := Lib.hid (R.limb_limbsOf m)
  have HV := Lib.hid (R.val_limbsOf m)
  have HA := Lib.hid p1
  generalize R.limbsOf m = xs at *
  obtain ⟨n, hn⟩ : ∃ n, xs.length = n := ⟨_, rfl⟩
  have HN := Lib.hid hn
  rw [hn] at hl ⊢
  clear p1 p2 ha hn
  go_enter Tryz.func101, Tryz.ntmps101
  go_wp2_with fail
  go_loop [3, 4] (fun nv iv => ∃ i : Nat, i ≤ n ∧ nv = .int .i64 (32 * (i : Int)) ∧ iv = .int .i64 (i : Int) ∧ ∀ j, j < i → xs[j]?.getD 0 = 0) (fun _ iv => n - (intOf iv).toNat)
  case atStart => exact ⟨0, Nat.zero_le _, rfl, rfl, fun j h => by omega⟩
  case round =>
    obtain ⟨i, hi, rfl, rfl, hz⟩ := hrel
    have HZ := Lib.hid hz
    clear hz
    by_cases hlt : i < n
    · have hlti : (i : Int) < (n : Int) := by omega
      have HLt := Lib.hid hlt
      obtain ⟨b, o, rfl, hc⟩ := HA.out i (by have := HN.out; omega)
      have HXi := Lib.hid (HX.out.get i)
      obtain ⟨x, hx⟩ : ∃ x, xs[i]?.getD 0 = x := ⟨_, rfl⟩
      have HXx := Lib.hid hx
      rw [hx] at hc HXi
      clear hx hlt
      go_wp2_with fail
      go_loopw [3, 5] (fun nv kv wr => ∃ k : Nat, k ≤ 32 ∧ nv = .int .i64 (32 * (i : Int) + (k : Int)) ∧ kv = .int .i64 (k : Int) ∧ x % 2 ^ k = 0 ∧ wr = w) (fun _ kv _ => 32 - (intOf kv).toNat)
      case atStart => exact ⟨0, by omega, by simp, rfl, by rw [Nat.pow_zero]; exact Nat.mod_one _, rfl⟩
      case round =>
        obtain ⟨k, hk, rfl, rfl, hm, rfl⟩ := hrel
        have HM := Lib.hid hm
        clear hm
        by_cases hk32 : k < 32
        · have hki : (k : Int) < 32 := by omega
          have hk64 : (k : Int) ≤ 64 := by omega
          obtain ⟨y, hy⟩ : ∃ y, x / 2 ^ k = y := ⟨_, rfl⟩
          have hd1 : (x : Int) / 2 ^ k = (y : Int) := by rw [← hy]; simp
          have hyl : y < 4294967296 := by rw [← hy]; exact Nat.lt_of_le_of_lt (Nat.div_le_self _ _) (by have := HXi.out; rwa [R.BB_val] at this)
          have hd2 : IntKind.u64.wrap (y : Int) = (y : Int) := u64_wrap (by rw [BB_val]; omega)
          have hand := and_one_u64 y (by omega)
          have HKl := Lib.hid hk32
          have HY := Lib.hid hy
          clear hk32 hy hyl
          rcases Nat.mod_two_eq_zero_or_one y with h2 | h2
          · rw [h2] at hand
            have HN2 : Hid (x % 2 ^ (k + 1) = 0) := by
              have e1 := Nat.div_add_mod x (2 ^ k)
              rw [HM.out, HY.out, Nat.add_zero] at e1
              show _ = _
              rw [← e1, Nat.pow_succ, show y = 2 * (y / 2) by omega, ← Nat.mul_assoc]
              exact Nat.mul_mod_right _ _
            clear h2
            simp only [Int.natCast_zero] at hand
            go_wp2_with fail
            go_roundw
            case rel => exact ⟨k + 1, by have := HKl.out; omega, by go_num, by go_num, HN2.out, trivial⟩
            case measure => have := HKl.out; simp [intOf]; omega
          · rw [h2] at hand
            have HLow : Hid (lowN m = 32 * i + k) := by
              show _ = _
              rw [← HV.out]
              exact rlow_at (by have := HN.out; have := HLt.out; omega) HZ.out HKl.out (by rw [HXx.out]; exact HM.out) (by rw [HXx.out, HY.out]; exact h2)
            clear h2
            simp only [Int.natCast_one] at hand
            go_wp2_with fail
            go_ret
            exact ⟨by rw [HLow.out]; simp, rfl⟩
        · obtain rfl : k = 32 := by omega
          have HZ2 : Hid (∀ j, j < i + 1 → xs[j]?.getD 0 = 0) := fun j hj => by
            rcases Nat.lt_or_ge j i with h | h
            · exact HZ.out j h
            · obtain rfl : j = i := by omega
              have h1 := HM.out
              have h2 := HXi.out
              rw [R.BB_pow] at h2
              rw [HXx.out]
              rwa [Nat.mod_eq_of_lt h2] at h1
          clear hk32
          go_wp2_with fail
          go_round
          case rel => exact ⟨i + 1, by have := HLt.out; omega, congrArg (Value.int .i64) (by omega), by go_num, HZ2.out⟩
          case measure => have := HLt.out; simp [intOf]; omega
    · obtain rfl : i = n := by omega
      have hM0 : m = 0 := by
        have h1 : xs = List.replicate i 0 := by
          apply List.ext_getElem
          · rw [List.length_replicate]; exact HN.out
          · intro j h1 h2
            have h3 := HZ.out j (by rw [← HN.out]; exact h1)
            rw [List.getElem?_eq_getElem h1] at h3
            simpa using h3
        rw [← HV.out, h1, R.val_zeros]
      have hnl : ¬ (i : Int) < (i : Int) := by omega
      have HLow : Hid (lowN m = 0) := by rw [hM0]; exact lowN_zero
      clear hlt hM0
      go_wp2_with fail
      go_ret
      exact ⟨by rw [HLow.out]; rfl, rfl⟩
end Go.Proofs.YtigpnopeacicpaaGreatDoor
/-
  The reference's dyads: Make, Sign, Not, Int.
-/
namespace Go.Proofs.YtigpnopeacicpaaGreatDoor
set_option linter.unusedSimpArgs false
open Go.RowKit
set_option maxHeartbeats 1600000 in
set_option maxRecDepth 100000 in
theorem rmake_d {w : World} {a : Value} {n : Nat} {r : Dy} (s : Bool) (e : Int) (ha : Hid (RV w a n)) (hf : Hid (Few n)) (h1 : -4000000000000000000 ≤ e) (h2 : e ≤ 4000000000000000000) (hr : nrm (sg s n) e = r) : Calls Tryz.prog 57 #[.bool s, a, .int .i64 e] w (RDP r w) := by
  have hb := few_bits hf.out
  have hl := ha.out
  obtain ⟨A, c, rfl, -, -⟩ := ha.out
  have hk := (KB.start w).new 38 [.bool false, .slice none 0 0, .int .i64 0]
  have HM := Lib.hid (ha.out.only hk.only)
  have HK := Lib.hid hk
  clear ha hk hl
  by_cases hn : n = 0
  · subst hn
    have hlen : (R.limbsOf 0).length = 0 := by rw [R.limbsOf_zero]; rfl
    rw [sg_zero, nrm_zero] at hr
    subst hr
    rw [hlen] at HM ⊢
    obtain ⟨c0, c1, c2, f0, f1, f2⟩ := HK.out.c3 0 rfl
    have HB := Lib.hid (HK.out.blk 0 rfl)
    have HO := Lib.hid HK.out.only
    clear HK hlen
    go_enter Tryz.func57, Tryz.ntmps57
    go_wp2_with fail
    refine bodyPost_ret (v := .agg #[.bool false, .slice none 0 0, .int .i64 (0)]) (by simp [results, Tryz.results57, go_sem, c0, c1, c2]) rfl ?_
    exact rdfin (x := ⟨0, 0⟩) (RV.nil _) ⟨by decide, by show 0 = (R.limbsOf 0).length; rw [R.limbsOf_zero]; rfl⟩ (Nat.le_refl _) HB.out (noLimb3 _ _ _ _ _) HO.out (Only.refl _ _)
  · have hk0 : (((R.limbsOf n).length : Int) == 0) = false := by
      rw [beq_eq_false_iff_ne]
      have : (R.limbsOf n).length ≠ 0 := fun h => hn (R.limbsOf_len0.1 h)
      omega
    obtain ⟨g1, g2⟩ := nrm_sg (s := s) e hn
    rw [g1] at hr
    obtain ⟨l, hle⟩ : ∃ l, lowN n = l := ⟨_, rfl⟩
    have hlb := lowN_le_bits n
    have HLo := Lib.hid hle
    rw [hle] at g2 hr hlb
    have hl9 : (l : Int) ≤ 90000000 := by omega
    have hsum : IntKind.i64.wrap (e + (l : Int)) = e + (l : Int) := wrap_i64 (by omega)
    subst hr
    have HS := Lib.hid g2
    clear hle hb g1 g2 hlb hn
    generalize (R.limbsOf n).length = k at *
    go_enter Tryz.func57, Tryz.ntmps57
    go_wp2_with fail
    (with_reducible refine (rlow_v HM hf).mono ?_)
    rintro e1 w2 ⟨rfl, rfl⟩
    rw [HLo.out]
    go_wp2_with fail
    (with_reducible refine (rshr_v l hl9 HM hf).mono ?_)
    rintro e2 w3 ⟨A1, k1, c1, rfl, hv, -, ho⟩
    have HV := Lib.hid hv
    have hk := HK.out.step ho
    obtain ⟨q0, q1, q2, f0, f1, f2⟩ := hk.c3 0 rfl
    have HB := Lib.hid (hk.blk 0 rfl)
    have HO := Lib.hid hk.only
    clear hv hk HK ho
    go_wp2_with fail
    refine bodyPost_ret (v := .agg #[.bool s, .slice A1 k1 c1, .int .i64 (e + (l : Int))]) (by simp [results, Tryz.results57, go_sem, q0, q1, q2]) rfl ?_
    exact rdfin (x := ⟨sg s (n / 2 ^ l), e + (l : Int)⟩) (by show Hid (RV _ _ (sg s (n / 2 ^ l)).natAbs); rw [sg_abs]; exact HV) ⟨HS.out, by show _ = (R.limbsOf (sg s (n / 2 ^ l)).natAbs).length; rw [sg_abs]; exact HV.out.len⟩ (Nat.le_refl _) HB.out (noLimb3 _ _ _ _ _) HO.out (only_set3 _ _ _ _ _)

set_option maxHeartbeats 800000 in
theorem rsign_d {w : World} {a : Value} {x : Dy} (p : Int) (ha : Hid (RD w a x)) (hp : x.z.sign = p) : Calls Tryz.prog 50 #[a] w fun e w' => e = .returned (.int .i64 p) ∧ Only [] w w' := by
  obtain ⟨s, A, k, c, rfl, ⟨h1, h2⟩, -⟩ := ha.out
  have hk := (KB.start w).new 38 [.bool s, .slice A k c, .int .i64 x.e]
  obtain ⟨q0, q1, q2, -, -, -⟩ := hk.c3 0 rfl
  have HO := Lib.hid hk.only
  have hz := sign_of x.z
  have hl0 : k = 0 ↔ x.z = 0 := by rw [h2, R.limbsOf_len0]; omega
  clear ha hk h2
  rcases hz with ⟨e1, e2⟩ | ⟨e1, e2⟩ | ⟨e1, e2⟩ <;> rw [e1] at hp <;> subst hp
  · have hk0 : ((k : Int) == 0) = false := by rw [beq_eq_false_iff_ne]; omega
    obtain rfl : s = true := by rw [h1]; simpa using e2
    clear h1 e1 e2 hl0
    go_enter Tryz.func50, Tryz.ntmps50
    go_wp2_with fail
    go_ret
    exact ⟨rfl, HO.out⟩
  · obtain rfl : k = 0 := hl0.2 e2
    clear h1 e1 e2 hl0
    go_enter Tryz.func50, Tryz.ntmps50
    go_wp2_with fail
    go_ret
    exact ⟨rfl, HO.out⟩
  · have hk0 : ((k : Int) == 0) = false := by rw [beq_eq_false_iff_ne]; omega
    obtain rfl : s = false := by rw [h1]; simp; omega
    clear h1 e1 e2 hl0
    go_enter Tryz.func50, Tryz.ntmps50
    go_wp2_with fail
    go_ret
    exact ⟨rfl, HO.out⟩
theorem rd_few {N : Nat} {x : Dy} (h : Bnd N x) (hN : N ≤ 8000000) : Few x.z.natAbs := few_two_pow h.z (by omega)
set_option maxHeartbeats 800000 in
theorem rint_d (v : Int) (w : World) (hv : Hid (-9223372036854775808 ≤ v ∧ v ≤ 9223372036854775807)) : Calls Tryz.prog 71 #[.int .i64 v] w (RDP (nrm v 0) w) := by
  have HF : Hid (Few v.natAbs) := few_small (by rw [BB_val]; have := hv.out; omega)
  have HR : Hid (v.natAbs < BB) := by show _ < _; rw [BB_val]; have := hv.out; omega
  have HK := Lib.hid ((KB.start w).new 38 [.bool false, .slice none 0 0, .int .i64 0])
  by_cases h0 : v < 0
  · have e1 : IntKind.u64.wrap v = v + 18446744073709551616 := by rw [IntKind.wrap_u64]; have := hv.out; omega
    have e2 : IntKind.u64.wrap (-(v + 18446744073709551616)) = (v.natAbs : Int) := by rw [IntKind.wrap_u64]; have := hv.out; omega
    have HS : Hid (nrm (sg true v.natAbs) 0 = nrm v 0) := by show _ = _; rw [sg_true]; congr 1; omega
    clear hv
    go_enter Tryz.func71, Tryz.ntmps71
    go_wp2_with fail
    (with_reducible refine (rsmall_any v.natAbs _ HR).mono ?_)
    clear e1 e2
    rintro e w1 ⟨A1, k1, c1, rfl, hv1, -, ho1⟩
    have HV1 := Lib.hid hv1
    replace HK := Lib.hid (HK.out.step ho1)
    clear hv1 ho1
    go_wp2_with fail
    (with_reducible refine (rmake_d true 0 HV1 HF (by omega) (by omega) HS.out).mono ?_)
    rintro e1 w2 ⟨s1, A1, k1, c1, rfl, hc, hv, ho⟩
    have hk := HK.out.step ho
    obtain ⟨q0, q1, q2, f0, f1, f2⟩ := hk.c3 0 rfl
    have HB := Lib.hid (hk.blk 0 rfl)
    have HO := Lib.hid hk.only
    have HV2 := Lib.hid hv
    have HC1 := Lib.hid hc
    clear hk ho hv hc HK HS
    generalize nrm v 0 = r at *
    go_wp2_with fail
    refine bodyPost_ret (v := .agg #[.bool s1, .slice A1 k1 c1, .int .i64 (r.e)]) (by simp [results, Tryz.results71, go_sem, q0, q1, q2]) rfl ?_
    exact rdfin HV2 HC1 (Nat.le_refl _) HB.out (noLimb3 _ _ _ _ _) HO.out (only_set3 _ _ _ _ _)
  · have e1 : IntKind.u64.wrap v = (v.natAbs : Int) := by rw [IntKind.wrap_u64]; have := hv.out; omega
    have HS : Hid (nrm (sg false v.natAbs) 0 = nrm v 0) := by show _ = _; rw [sg_false]; congr 1; omega
    clear hv
    go_enter Tryz.func71, Tryz.ntmps71
    go_wp2_with fail
    (with_reducible refine (rsmall_any v.natAbs _ HR).mono ?_)
    clear e1
    rintro e w1 ⟨A1, k1, c1, rfl, hv1, -, ho1⟩
    have HV1 := Lib.hid hv1
    replace HK := Lib.hid (HK.out.step ho1)
    clear hv1 ho1
    go_wp2_with fail
    (with_reducible refine (rmake_d false 0 HV1 HF (by omega) (by omega) HS.out).mono ?_)
    rintro e1 w2 ⟨s1, A1, k1, c1, rfl, hc, hv, ho⟩
    have hk := HK.out.step ho
    obtain ⟨q0, q1, q2, f0, f1, f2⟩ := hk.c3 0 rfl
    have HB := Lib.hid (hk.blk 0 rfl)
    have HO := Lib.hid hk.only
    have HV2 := Lib.hid hv
    have HC1 := Lib.hid hc
    clear hk ho hv hc HK HS
    generalize nrm v 0 = r at *
    go_wp2_with fail
    refine bodyPost_ret (v := .agg #[.bool s1, .slice A1 k1 c1, .int .i64 (r.e)]) (by simp [results, Tryz.results71, go_sem, q0, q1, q2]) rfl ?_
    exact rdfin HV2 HC1 (Nat.le_refl _) HB.out (noLimb3 _ _ _ _ _) HO.out (only_set3 _ _ _ _ _)

end Go.Proofs.YtigpnopeacicpaaGreatDoor
/-
  The reference's dyads: Mul, Add.
-/
namespace Go.Proofs.YtigpnopeacicpaaGreatDoor
set_option linter.unusedSimpArgs false
open Go.RowKit

end Go.Proofs.YtigpnopeacicpaaGreatDoor
/-
  The reference's dyads: Sub, Top, Cmp, Same.
-/
namespace Go.Proofs.YtigpnopeacicpaaGreatDoor
set_option linter.unusedSimpArgs false
open Go.RowKit

end Go.Proofs.YtigpnopeacicpaaGreatDoor
/-
  The reference's dyad of a dyad.
-/
namespace Go.Proofs.YtigpnopeacicpaaGreatDoor
set_option linter.unusedSimpArgs false
open Go.RowKit

/-- A dyad of the reference's in a box. -/
structure QB (w : World) (g : Nat) (s : Bool) (A : Option Addr) (k c : Nat) (x : Dy) : Prop where
  blk : Blk w g 38 [.bool s, .slice A k c, .int .i64 x.e]
  val : RV w (.slice A k c) x.z.natAbs
  cr : Cr s k x.z
theorem QB.new {w : World} {s : Bool} {A : Option Addr} {k c : Nat} {x : Dy} (hv : RV w (.slice A k c) x.z.natAbs) (hc : Cr s k x.z) : QB (w.alloc (.cells #[.bool s, .slice A k c, .int .i64 x.e] 38)) w.heap.size s A k c x :=
  ⟨Blk.new w 38 _, hv.only ((Only.refl [] w).alloc _), hc⟩
theorem QB.step {w w' : World} {g : Nat} {s : Bool} {A : Option Addr} {k c : Nat} {x : Dy} (h : QB w g s A k c x) (ho : Only [] w w') : QB w' g s A k c x := ⟨h.blk.only ho (by simp), h.val.only ho, h.cr⟩
theorem QB.far {w w' : World} {g b : Nat} {s : Bool} {A : Option Addr} {k c : Nat} {x : Dy} {t : TypeId} {cs : List Value} (h : QB w g s A k c x) (ho : Only [b] w w') (hne : g ≠ b) (hb : Blk w b t cs) (hn : NoLimb cs) : QB w' g s A k c x :=
  ⟨h.blk.only ho (by simpa using hne), h.val.farS ho (fun g' hg' => by rw [List.mem_singleton] at hg'; subst hg'; exact h.val.far_blk hb hn), h.cr⟩
theorem QB.cells {w : World} {g : Nat} {s : Bool} {A : Option Addr} {k c : Nat} {x : Dy} (h : Hid (QB w g s A k c x)) : w.cell? ⟨g, 0, none⟩ = some (.bool s) ∧ w.cell? ⟨g, 1, none⟩ = some (.slice A k c) ∧ w.cell? ⟨g, 2, none⟩ = some (.int .i64 x.e) := ⟨h.out.blk.cell 0, h.out.blk.cell 1, h.out.blk.cell 2⟩

end Go.Proofs.YtigpnopeacicpaaGreatDoor

/-
  Balls: Quo.
-/
namespace Go.Proofs.YtigpnopeacicpaaGreatDoor
set_option linter.unusedSimpArgs false
open Go.RowKit

structure IX where
  s : Bool
  a : Option Addr
  k : Nat
  c : Nat
  z : Int
/-- Whole numbers at hand. -/
def IVL (w : World) (L : List IX) : Prop := ∀ (i : Nat) (y : IX), L[i]? = some y → IV w (.agg #[.bool y.s, .slice y.a y.k y.c]) y.z
theorem IVL.nil (w : World) : IVL w [] := fun i y h => by simp at h
theorem IVL.cons {w : World} {L : List IX} (h : IVL w L) {s : Bool} {A : Option Addr} {k c : Nat} {z : Int} (hv : IV w (.agg #[.bool s, .slice A k c]) z) : IVL w (⟨s, A, k, c, z⟩ :: L) := fun i y hy => by
  rcases i with _ | i
  · obtain rfl := (Option.some.inj hy).symm; exact hv
  · exact h i y hy
theorem IVL.step {w w' : World} {L : List IX} (h : IVL w L) (ho : Only [] w w') : IVL w' L := fun i y hy => (h i y hy).only ho
theorem IVL.far3 {w : World} {L : List IX} (h : IVL w L) {g : Nat} {t : TypeId} {cs : List Value} {x y u : Value} (hb : Blk w g t cs) (hn : NoLimb cs) : IVL (((w.setCell ⟨g, 0, none⟩ x).setCell ⟨g, 1, none⟩ y).setCell ⟨g, 2, none⟩ u) L := fun i z hz => (h i z hz).set3 hb hn
theorem IVL.at {w : World} {L : List IX} (h : Hid (IVL w L)) (i : Nat) {s : Bool} {A : Option Addr} {k c : Nat} {z : Int} (hi : L[i]? = some ⟨s, A, k, c, z⟩) : Hid (IV w (.agg #[.bool s, .slice A k c]) z) := h.out i _ hi
theorem KB.far3 {w0 w : World} {L : List EB} (h : KB w0 w L) {g : Nat} {u v x : Value} (hne : ∀ (j : Nat) (y : EB), L[j]? = some y → y.g ≠ g) (hg : w0.heap.size ≤ g) : KB w0 (((w.setCell ⟨g, 0, none⟩ u).setCell ⟨g, 1, none⟩ v).setCell ⟨g, 2, none⟩ x) L :=
  ⟨h.only.trans (only_set3 w g u v x) (fun k hk => .inr (by simp at hk; omega)), fun j y hj => (h.all j y hj).only (only_set3 w g u v x) (by simp; exact hne j y hj)⟩
/-- What a function leaves that tells a ball, and whether there is one. -/
def QBPost (x y : Dy) (ok : Bool) (w : World) (e : Ending) (w' : World) : Prop := ∃ s A k c t B m d, e = .returned (.tuple #[.agg #[.bool s, .slice A k c, .int .i64 x.e, .bool t, .slice B m d, .int .i64 y.e], .bool ok]) ∧ Cn s k x.z ∧ IV w' (.agg #[.bool s, .slice A k c]) x.z ∧ Cn t m y.z ∧ IV w' (.agg #[.bool t, .slice B m d]) y.z ∧ Only [] w w'
theorem qbfin {ok : Bool} {x y : Dy} {w w1 w2 : World} {b : Nat} {t : TypeId} {cs : List Value} {s s' : Bool} {A A' : Option Addr} {k c k' c' : Nat} (hc : Hid (Cn s k x.z)) (hv : Hid (IV w1 (.agg #[.bool s, .slice A k c]) x.z)) (hc' : Hid (Cn s' k' y.z)) (hv' : Hid (IV w1 (.agg #[.bool s', .slice A' k' c']) y.z)) (hb : w.heap.size ≤ b) (hB : Blk w1 b t cs) (hn : NoLimb cs) (ho : Only [] w w1) (ho2 : Only [b] w1 w2) :
    QBPost x y ok w (.returned (.tuple #[.agg #[.bool s, .slice A k c, .int .i64 x.e, .bool s', .slice A' k' c', .int .i64 y.e], .bool ok])) w2 :=
  ⟨s, A, k, c, s', A', k', c', rfl, hc.out, hv.out.farS ho2 (fun g hg => by rw [List.mem_singleton] at hg; subst hg; exact hv.out.far_blk hB hn), hc'.out, hv'.out.farS ho2 (fun g hg => by rw [List.mem_singleton] at hg; subst hg; exact hv'.out.far_blk hB hn), ho.trans ho2 (fun k hk => .inr (by simp at hk; omega))⟩
theorem cn_zero : Cn false 0 0 := ⟨by decide, by show 0 = (limbsOf 0).length; rw [limbsOf_zero]; rfl⟩
end Go.Proofs.YtigpnopeacicpaaGreatDoor

/-
  Balls: Quo, whatever comes in; compasslaw5.alive.
-/
namespace Go.Proofs.YtigpnopeacicpaaGreatDoor
set_option linter.unusedSimpArgs false
open Go.RowKit

set_option maxHeartbeats 8000000 in
set_option maxRecDepth 100000 in
theorem bquo_no {w : World} {a b : Value} {x y u v : Dy} (p : Int) (h : u.z.sign = v.z.sign → u.z.sign = 0) (ha : Hid (BV w a x y)) (hb : Hid (BV w b u v)) : Calls Tryz.prog 10 #[a, b, .int .i64 p] w (QBPost ⟨0, 0⟩ ⟨0, 0⟩ false w) := by
  obtain ⟨s1, A1, k1, c1, t1, B1, m1, d1, rfl, hx1, hy1⟩ := ha.out
  obtain ⟨s2, A2, k2, c2, t2, B2, m2, d2, rfl, hx2, hy2⟩ := hb.out
  have HB2 : Hid (BV w (.agg #[.bool s2, .slice A2 k2 c2, .int .i64 u.e, .bool t2, .slice B2 m2 d2, .int .i64 v.e]) u v) := hb
  have hk := (((KB.start w).new 34 [.bool s1, .slice A1 k1 c1, .int .i64 x.e, .bool t1, .slice B1 m1 d1, .int .i64 y.e]).new 34 [.bool s2, .slice A2 k2 c2, .int .i64 u.e, .bool t2, .slice B2 m2 d2, .int .i64 v.e]).new 34 [.bool false, .slice none 0 0, .int .i64 0, .bool false, .slice none 0 0, .int .i64 0]
  simp only [World.size_alloc] at hk
  replace HB2 := Lib.hid (HB2.out.only hk.only)
  have HK := Lib.hid hk
  clear hk hx1 hy1 hx2 hy2 ha hb
  obtain ⟨j0, j1, j2, j3, j4, j5⟩ := HK.out.c6 1 rfl
  obtain ⟨sv, hsv⟩ : ∃ sv, (if u.z.sign = v.z.sign then u.z.sign else 0) = sv := ⟨_, rfl⟩
  obtain ⟨ok, hok⟩ : ∃ ok, decide (u.z.sign = v.z.sign) = ok := ⟨_, rfl⟩
  have hsv0 : ok = true → sv = 0 := fun hc => by
    rw [← hok] at hc
    have h1 : u.z.sign = v.z.sign := by simpa using hc
    rw [← hsv, if_pos h1]
    exact h h1
  have HS := Lib.hid hsv
  have HO := Lib.hid hok
  clear hsv hok h
  go_enter Tryz.func10, Tryz.ntmps10
  go_wp2_with fail
  (with_reducible refine (bsign_b sv ok HS.out HO.out HB2).mono ?_)
  rintro e w3 ⟨rfl, ho⟩
  replace HK := Lib.hid (HK.out.step ho)
  clear ho j0 j1 j2 j3 j4 j5 HB2
  obtain ⟨q0, q1, q2, q3, q4, q5⟩ := HK.out.c6 0 rfl
  obtain ⟨f0, f1, f2, f3, f4, f5⟩ := HK.out.f6 0 rfl
  cases ok
  · clear hsv0
    go_wp2_with fail
    refine bodyPost_ret (v := .tuple #[.agg #[.bool false, .slice none 0 0, .int .i64 (0), .bool false, .slice none 0 0, .int .i64 (0)], .bool false]) (by simp [results, Tryz.results10, go_sem, q0, q1, q2, q3, q4, q5]) rfl ?_
    exact qbfin (x := ⟨0, 0⟩) (y := ⟨0, 0⟩) (Lib.hid cn_zero) (Lib.hid (IV.zero _)) (Lib.hid cn_zero) (Lib.hid (IV.zero _)) (by omega) (HK.out.blk 0 rfl) (noLimb6 _ _ _ _ _ _ _ _ _ _) HK.out.only (only_set6 _ _ _ _ _ _ _ _)
  · have h1 := hsv0 rfl
    subst h1
    clear hsv0
    go_wp2_with fail
    refine bodyPost_ret (v := .tuple #[.agg #[.bool false, .slice none 0 0, .int .i64 (0), .bool false, .slice none 0 0, .int .i64 (0)], .bool false]) (by simp [results, Tryz.results10, go_sem, q0, q1, q2, q3, q4, q5]) rfl ?_
    exact qbfin (x := ⟨0, 0⟩) (y := ⟨0, 0⟩) (Lib.hid cn_zero) (Lib.hid (IV.zero _)) (Lib.hid cn_zero) (Lib.hid (IV.zero _)) (by omega) (HK.out.blk 0 rfl) (noLimb6 _ _ _ _ _ _ _ _ _ _) HK.out.only (only_set6 _ _ _ _ _ _ _ _)

theorem atV_b {w : World} {a : Value} {x : Dy} {N : Nat} (r : Dy) (hr : nrm x.z x.e = r) (ha : Hid (DV w a x)) (bx : Hid (Bnd N x)) (hN : N ≤ 8000000) (hT : Hid (Tab6 w)) : Calls Tryz.prog 32 #[a] w (BPost r r w) := hr ▸ at_b ha bx hN hT
theorem bnd_3 : Bnd 4 ⟨3, 0⟩ := bnd_s (by decide) (by decide) (by decide)
end Go.Proofs.YtigpnopeacicpaaGreatDoor

/-
  Balls, plain: rounding grows with the number and with the width; products and quotients of corners.
-/
namespace Go.Proofs.YtigpnopeacicpaaGreatDoor
set_option linter.unusedSimpArgs false

theorem Short.mono {P P' : Nat} {s : Dy} (h : Short P s) (hP : P ≤ P') : Short P' s := Nat.lt_of_lt_of_le h (two_mono hP)
end Go.Proofs.YtigpnopeacicpaaGreatDoor

/-
  Balls: Sqrt.
-/
namespace Go.Proofs.YtigpnopeacicpaaGreatDoor
set_option linter.unusedSimpArgs false
open Go.RowKit
set_option maxHeartbeats 8000000 in
set_option maxRecDepth 100000 in
theorem bsqrt_no {w : World} {a : Value} {x y : Dy} (p sy : Int) (HSY : Hid (y.z.sign = sy)) (hy0 : sy < 0) (ha : Hid (BV w a x y)) : Calls Tryz.prog 12 #[a, .int .i64 p] w (QBPost ⟨0, 0⟩ ⟨0, 0⟩ false w) := by
  obtain ⟨s1, A1, k1, c1, t1, B1, m1, d1, rfl, hx1, hy1⟩ := ha.out
  have hk := ((KB.start w).new 34 [.bool s1, .slice A1 k1 c1, .int .i64 x.e, .bool t1, .slice B1 m1 d1, .int .i64 y.e]).new 34 [.bool false, .slice none 0 0, .int .i64 0, .bool false, .slice none 0 0, .int .i64 0]
  simp only [World.size_alloc] at hk
  have hi := ((IVL.nil w).cons hy1).cons hx1
  have HI := Lib.hid (hi.step hk.only)
  have HK := Lib.hid hk
  clear hk hi hx1 hy1 ha
  obtain ⟨j0, j1, j2, j3, j4, j5⟩ := HK.out.c6 1 rfl
  go_enter Tryz.func12, Tryz.ntmps12
  go_wp2_with fail
  (with_reducible refine (signV_d sy (DV.of (IVL.at HI 1 rfl)) HSY.out).mono ?_)
  rintro e w2 ⟨rfl, ho⟩
  replace HK := Lib.hid (HK.out.step ho)
  replace HI := Lib.hid (HI.out.step ho)
  clear ho
  clear j0 j1 j2 j3 j4 j5
  obtain ⟨q0, q1, q2, q3, q4, q5⟩ := HK.out.c6 0 rfl
  obtain ⟨f0, f1, f2, f3, f4, f5⟩ := HK.out.f6 0 rfl
  go_wp2_with fail
  refine bodyPost_ret (v := .tuple #[.agg #[.bool false, .slice none 0 0, .int .i64 (0), .bool false, .slice none 0 0, .int .i64 (0)], .bool false]) (by simp [results, Tryz.results12, go_sem, q0, q1, q2, q3, q4, q5]) rfl ?_
  exact qbfin (x := ⟨0, 0⟩) (y := ⟨0, 0⟩) (Lib.hid cn_zero) (Lib.hid (IV.zero _)) (Lib.hid cn_zero) (Lib.hid (IV.zero _)) (by omega) (HK.out.blk 0 rfl) (noLimb6 _ _ _ _ _ _ _ _ _ _) HK.out.only (only_set6 _ _ _ _ _ _ _ _)
set_option maxHeartbeats 8000000 in
set_option maxRecDepth 100000 in
theorem bsqrt_core {w : World} {a : Value} {x y lo hi x' : Dy} {N : Nat} (p sy sx : Int) (HSY : Hid (y.z.sign = sy)) (hy0 : ¬ sy < 0) (HSX : Hid (x.z.sign = sx)) (HX' : Hid ((sx < 0 → x' = ⟨0, 0⟩) ∧ (¬ sx < 0 → x = x'))) (HLo : Hid (sqrtQ (widthP p) (decide ((0 : Int) ≤ -1)) x' = lo)) (HHi : Hid (sqrtQ (widthP p) (decide ((0 : Int) ≤ 1)) y = hi)) (HOKl : Hid (decide (0 ≤ x'.z) = true)) (HOKh : Hid (decide (0 ≤ y.z) = true))
    (ha : Hid (BV w a x y)) (BL : Hid (Bnd N x')) (by_ : Hid (Bnd N y)) (hN : N ≤ 100000) (hT : Hid (Tab6 w)) : Calls Tryz.prog 12 #[a, .int .i64 p] w (QBPost lo hi true w) := by
  obtain ⟨s1, A1, k1, c1, t1, B1, m1, d1, rfl, hx1, hy1⟩ := ha.out
  have hk := ((KB.start w).new 34 [.bool s1, .slice A1 k1 c1, .int .i64 x.e, .bool t1, .slice B1 m1 d1, .int .i64 y.e]).new 34 [.bool false, .slice none 0 0, .int .i64 0, .bool false, .slice none 0 0, .int .i64 0]
  simp only [World.size_alloc] at hk
  have hi := ((IVL.nil w).cons hy1).cons hx1
  have HI := Lib.hid (hi.step hk.only)
  have HK := Lib.hid hk
  clear hk hi hx1 hy1 ha
  obtain ⟨j0, j1, j2, j3, j4, j5⟩ := HK.out.c6 1 rfl
  go_enter Tryz.func12, Tryz.ntmps12
  go_wp2_with fail
  (with_reducible refine (signV_d sy (DV.of (IVL.at HI 1 rfl)) HSY.out).mono ?_)
  rintro e w2 ⟨rfl, ho⟩
  replace HK := Lib.hid (HK.out.step ho)
  replace HI := Lib.hid (HI.out.step ho)
  clear ho
  clear j0 j1 j2 j3 j4 j5
  obtain ⟨j0, j1, j2, j3, j4, j5⟩ := HK.out.c6 1 rfl
  have hg3 : w.heap.size + 2 ≤ w2.heap.size := by have := (HK.out.blk 0 rfl).lt; omega
  go_upto_region 4 with fail
  have HE := Lib.hid (((DB.start w).step HK.out.only).new (IVL.at HI 0 rfl).out)
  have ho := (Only.refl [] w2).alloc (.cells #[.bool s1, .slice A1 k1 c1, .int .i64 x.e] 32)
  replace HK := Lib.hid (HK.out.step ho)
  replace HI := Lib.hid (HI.out.step ho)
  clear j0 j1 j2 j3 j4 j5
  clear ho
  generalize w2.heap.size = gl at *
  generalize w2.alloc _ = w3 at *
  obtain ⟨i0, i1, i2, -, -, -⟩ := DB.cells HE 0 rfl
  go_wp2_with fail
  (with_reducible refine (signV_d sx (DB.dv HE 0 rfl) HSX.out).mono ?_)
  rintro e w4 ⟨rfl, ho⟩
  replace HE := Lib.hid (HE.out.step ho)
  replace HK := Lib.hid (HK.out.step ho)
  replace HI := Lib.hid (HI.out.step ho)
  clear ho
  clear i0 i1 i2
  go_upto_if 20 with fail
  by_cases hs0 : sx < 0
  · have hxx := HX'.out.1 (by omega)
    subst hxx
    obtain ⟨l0, l1, l2, fl0, fl1, fl2⟩ := DB.cells HE 0 rfl
    go_upto_region 5 with fail
    go_upto_region 6 with fail
    have hput := HE.out.put (x := ⟨0, 0⟩) 0 rfl (IV.zero _)
    have hkf := HK.out.far3 (g := gl) (u := .bool false) (v := .slice none 0 0) (x := .int .i64 0) (fun j y hy => by rcases j with _ | _ | j <;> first | (obtain rfl := (Option.some.inj hy).symm; dsimp only; omega) | simp at hy) (by omega)
    have hif := HI.out.far3 (x := .bool false) (y := .slice none 0 0) (u := .int .i64 0) (HE.out.all 0 _ rfl).1 (noLimb3 _ _ _ _ _)
    clear l0 l1 l2 fl0 fl1 fl2
    clear HE HK HI
    have HE := Lib.hid hput
    have HK := Lib.hid hkf
    have HI := Lib.hid hif
    clear hput hkf hif
    generalize ((w4.setCell _ _).setCell _ _).setCell _ _ = wz at *
    obtain ⟨i0, i1, i2, -, -, -⟩ := DB.cells HE 0 rfl
    go_wp2_with fail
    (with_reducible refine (sqrtV_d p (-1) lo true HLo.out HOKl.out (DB.dv HE 0 rfl) BL (by omega) (Lib.hid (hT.out.keep HK.out.only))).mono ?_)
    rintro e w5 ⟨s5, A5, k5, c5, rfl, hs, hk, hv, ho⟩
    have HC5 : Hid (Cn s5 k5 lo.z) := ⟨hs, hk⟩
    replace HE := Lib.hid ((HE.out.step ho).new hv)
    replace HK := Lib.hid (HK.out.step ho)
    replace HI := Lib.hid (HI.out.step ho)
    clear hs hk hv ho
    clear i0 i1 i2
    have ho := (Only.refl [] w5).alloc (.cells #[.bool s5, .slice A5 k5 c5, .int .i64 lo.e] 32)
    replace HK := Lib.hid (HK.out.step ho)
    replace HI := Lib.hid (HI.out.step ho)
    clear ho
    go_upto_region 7 with fail
    generalize w5.heap.size = g5 at *
    generalize w5.alloc _ = w6 at *
    obtain ⟨j0, j1, j2, j3, j4, j5⟩ := HK.out.c6 1 rfl
    go_wp2_with fail
    (with_reducible refine (sqrtV_d p 1 hi true HHi.out HOKh.out (DV.of (IVL.at HI 1 rfl)) by_ (by omega) (Lib.hid (hT.out.keep HK.out.only))).mono ?_)
    rintro e w7 ⟨s6, A6, k6, c6, rfl, hs, hk, hv, ho⟩
    have HC6 : Hid (Cn s6 k6 hi.z) := ⟨hs, hk⟩
    replace HE := Lib.hid ((HE.out.step ho).new hv)
    replace HK := Lib.hid (HK.out.step ho)
    replace HI := Lib.hid (HI.out.step ho)
    clear hs hk hv ho
    clear j0 j1 j2 j3 j4 j5
    have ho := (Only.refl [] w7).alloc (.cells #[.bool s6, .slice A6 k6 c6, .int .i64 hi.e] 32)
    replace HK := Lib.hid (HK.out.step ho)
    replace HI := Lib.hid (HI.out.step ho)
    clear ho
    go_upto_region 8 with fail
    generalize w7.heap.size = g7 at *
    generalize w7.alloc _ = w8 at *
    obtain ⟨i0, i1, i2, -, -, -⟩ := DB.cells HE 1 rfl
    obtain ⟨l0, l1, l2, -, -, -⟩ := DB.cells HE 0 rfl
    obtain ⟨q0, q1, q2, q3, q4, q5⟩ := HK.out.c6 0 rfl
    obtain ⟨f0, f1, f2, f3, f4, f5⟩ := HK.out.f6 0 rfl
    go_wp2_with fail
    refine bodyPost_ret (v := .tuple #[.agg #[.bool s5, .slice A5 k5 c5, .int .i64 (lo.e), .bool s6, .slice A6 k6 c6, .int .i64 (hi.e)], .bool true]) (by simp [results, Tryz.results12, go_sem, q0, q1, q2, q3, q4, q5]) rfl ?_
    exact qbfin HC5 (DB.iv HE 1 rfl) HC6 (DB.iv HE 0 rfl) (by omega) (HK.out.blk 0 rfl) (noLimb6 _ _ _ _ _ _ _ _ _ _) HK.out.only (only_set6 _ _ _ _ _ _ _ _)
  · have hxx := HX'.out.2 (by omega)
    subst hxx
    obtain ⟨i0, i1, i2, -, -, -⟩ := DB.cells HE 0 rfl
    go_wp2_with fail
    (with_reducible refine (sqrtV_d p (-1) lo true HLo.out HOKl.out (DB.dv HE 0 rfl) BL (by omega) (Lib.hid (hT.out.keep HK.out.only))).mono ?_)
    rintro e w5 ⟨s5, A5, k5, c5, rfl, hs, hk, hv, ho⟩
    have HC5 : Hid (Cn s5 k5 lo.z) := ⟨hs, hk⟩
    replace HE := Lib.hid ((HE.out.step ho).new hv)
    replace HK := Lib.hid (HK.out.step ho)
    replace HI := Lib.hid (HI.out.step ho)
    clear hs hk hv ho
    clear i0 i1 i2
    have ho := (Only.refl [] w5).alloc (.cells #[.bool s5, .slice A5 k5 c5, .int .i64 lo.e] 32)
    replace HK := Lib.hid (HK.out.step ho)
    replace HI := Lib.hid (HI.out.step ho)
    clear ho
    go_upto_region 7 with fail
    generalize w5.heap.size = g5 at *
    generalize w5.alloc _ = w6 at *
    obtain ⟨j0, j1, j2, j3, j4, j5⟩ := HK.out.c6 1 rfl
    go_wp2_with fail
    (with_reducible refine (sqrtV_d p 1 hi true HHi.out HOKh.out (DV.of (IVL.at HI 1 rfl)) by_ (by omega) (Lib.hid (hT.out.keep HK.out.only))).mono ?_)
    rintro e w7 ⟨s6, A6, k6, c6, rfl, hs, hk, hv, ho⟩
    have HC6 : Hid (Cn s6 k6 hi.z) := ⟨hs, hk⟩
    replace HE := Lib.hid ((HE.out.step ho).new hv)
    replace HK := Lib.hid (HK.out.step ho)
    replace HI := Lib.hid (HI.out.step ho)
    clear hs hk hv ho
    clear j0 j1 j2 j3 j4 j5
    have ho := (Only.refl [] w7).alloc (.cells #[.bool s6, .slice A6 k6 c6, .int .i64 hi.e] 32)
    replace HK := Lib.hid (HK.out.step ho)
    replace HI := Lib.hid (HI.out.step ho)
    clear ho
    go_upto_region 8 with fail
    generalize w7.heap.size = g7 at *
    generalize w7.alloc _ = w8 at *
    obtain ⟨i0, i1, i2, -, -, -⟩ := DB.cells HE 1 rfl
    obtain ⟨l0, l1, l2, -, -, -⟩ := DB.cells HE 0 rfl
    obtain ⟨q0, q1, q2, q3, q4, q5⟩ := HK.out.c6 0 rfl
    obtain ⟨f0, f1, f2, f3, f4, f5⟩ := HK.out.f6 0 rfl
    go_wp2_with fail
    refine bodyPost_ret (v := .tuple #[.agg #[.bool s5, .slice A5 k5 c5, .int .i64 (lo.e), .bool s6, .slice A6 k6 c6, .int .i64 (hi.e)], .bool true]) (by simp [results, Tryz.results12, go_sem, q0, q1, q2, q3, q4, q5]) rfl ?_
    exact qbfin HC5 (DB.iv HE 1 rfl) HC6 (DB.iv HE 0 rfl) (by omega) (HK.out.blk 0 rfl) (noLimb6 _ _ _ _ _ _ _ _ _ _) HK.out.only (only_set6 _ _ _ _ _ _ _ _)
theorem bsqrt_b {w : World} {a : Value} {x y lo hi : Dy} {N : Nat} (p : Int) (hy0 : 0 ≤ y.z) (hlo : sqrtQ (widthP p) false (if x.z < 0 then ⟨0, 0⟩ else x) = lo) (hhi : sqrtQ (widthP p) true y = hi) (ha : Hid (BV w a x y)) (bx : Hid (Bnd N x)) (by_ : Hid (Bnd N y)) (hN : N ≤ 100000) (hT : Hid (Tab6 w)) : Calls Tryz.prog 12 #[a, .int .i64 p] w (QBPost lo hi true w) := by
  have sx := sign_of x.z
  have sy := sign_of y.z
  refine bsqrt_core (x' := if x.z < 0 then ⟨0, 0⟩ else x) p _ _ (Lib.hid rfl) (by omega) (Lib.hid rfl) (Lib.hid ⟨fun h => by rw [if_pos (by omega)], fun h => by rw [if_neg (by omega)]⟩) (Lib.hid hlo) (Lib.hid hhi) (Lib.hid ?_) (Lib.hid (by simpa using hy0)) ha (Lib.hid ?_) by_ hN hT
  · split
    · decide
    · simp; omega
  · split
    · exact bnd_zero _
    · exact bx.out

end Go.Proofs.YtigpnopeacicpaaGreatDoor

/-
  Balls in boxes: a list of boxes at hand, each with a ball in it; balls as values of a typed region.
-/
namespace Go.Proofs.YtigpnopeacicpaaGreatDoor
set_option linter.unusedSimpArgs false
open Go.RowKit

structure YX where
  g : Nat
  s : Bool
  a : Option Addr
  k : Nat
  c : Nat
  t : Bool
  b : Option Addr
  m : Nat
  d : Nat
  x : Dy
  y : Dy
def YX.cs (b : YX) : List Value := [.bool b.s, .slice b.a b.k b.c, .int .i64 b.x.e, .bool b.t, .slice b.b b.m b.d, .int .i64 b.y.e]
def YX.ok (w : World) (b : YX) : Prop := Blk w b.g 34 b.cs ∧ IV w (.agg #[.bool b.s, .slice b.a b.k b.c]) b.x.z ∧ IV w (.agg #[.bool b.t, .slice b.b b.m b.d]) b.y.z
structure YB (w0 w : World) (L : List YX) : Prop where
  only : Only [] w0 w
  all : ∀ (i : Nat) (x : YX), L[i]? = some x → YX.ok w x
  base : ∀ (i : Nat) (x : YX), L[i]? = some x → w0.heap.size ≤ x.g
  ne : ∀ (i j : Nat) (x y : YX), i ≠ j → L[i]? = some x → L[j]? = some y → x.g ≠ y.g
theorem YB.step {w0 w w' : World} {L : List YX} (h : YB w0 w L) (ho : Only [] w w') : YB w0 w' L := ⟨h.only.nil_trans ho, fun i x hx => ⟨(h.all i x hx).1.only ho (by simp), (h.all i x hx).2.1.only ho, (h.all i x hx).2.2.only ho⟩, h.base, h.ne⟩
theorem YB.new {w0 w : World} {L : List YX} (h : YB w0 w L) {s t : Bool} {A B : Option Addr} {k c m d : Nat} {x y : Dy} (hv : IV w (.agg #[.bool s, .slice A k c]) x.z) (hv' : IV w (.agg #[.bool t, .slice B m d]) y.z) :
    YB w0 (w.alloc (.cells #[.bool s, .slice A k c, .int .i64 x.e, .bool t, .slice B m d, .int .i64 y.e] 34)) (⟨w.heap.size, s, A, k, c, t, B, m, d, x, y⟩ :: L) := by
  have ho : Only [] w (w.alloc (.cells #[.bool s, .slice A k c, .int .i64 x.e, .bool t, .slice B m d, .int .i64 y.e] 34)) := (Only.refl [] w).alloc _
  have h' := h.step ho
  refine ⟨h'.only, fun i y hy => ?_, fun i y hy => ?_, fun i j y z hij hy hz => ?_⟩
  · rcases i with _ | i
    · obtain rfl := (Option.some.inj hy).symm
      exact ⟨Blk.new w _ _, hv.only ho, hv'.only ho⟩
    · exact h'.all i y hy
  · rcases i with _ | i
    · obtain rfl := (Option.some.inj hy).symm
      exact h.only.size
    · exact h.base i y hy
  · rcases i with _ | i
    · rcases j with _ | j
      · omega
      · obtain rfl := (Option.some.inj hy).symm
        have := (h.all j z hz).1.lt
        show w.heap.size ≠ z.g
        omega
    · rcases j with _ | j
      · obtain rfl := (Option.some.inj hz).symm
        have := (h.all i y hy).1.lt
        show y.g ≠ w.heap.size
        omega
      · exact h.ne i j y z (by omega) hy hz
theorem YB.cells {w0 w : World} {L : List YX} (h : Hid (YB w0 w L)) (i : Nat) {g : Nat} {s t : Bool} {A B : Option Addr} {k c m d : Nat} {x y : Dy} (hi : L[i]? = some ⟨g, s, A, k, c, t, B, m, d, x, y⟩) :
    w.cell? ⟨g, 0, none⟩ = some (.bool s) ∧ w.cell? ⟨g, 1, none⟩ = some (.slice A k c) ∧ w.cell? ⟨g, 2, none⟩ = some (.int .i64 x.e) ∧ w.cell? ⟨g, 3, none⟩ = some (.bool t) ∧ w.cell? ⟨g, 4, none⟩ = some (.slice B m d) ∧ w.cell? ⟨g, 5, none⟩ = some (.int .i64 y.e) :=
  have hb := (h.out.all i _ hi).1
  ⟨hb.cell 0, hb.cell 1, hb.cell 2, hb.cell 3, hb.cell 4, hb.cell 5⟩
theorem YB.bv {w0 w : World} {L : List YX} (h : Hid (YB w0 w L)) (i : Nat) {g : Nat} {s t : Bool} {A B : Option Addr} {k c m d : Nat} {x y : Dy} (hi : L[i]? = some ⟨g, s, A, k, c, t, B, m, d, x, y⟩) : Hid (BV w (.agg #[.bool s, .slice A k c, .int .i64 x.e, .bool t, .slice B m d, .int .i64 y.e]) x y) :=
  have hb := (h.out.all i _ hi).2
  Lib.hid ⟨s, A, k, c, t, B, m, d, rfl, hb.1, hb.2⟩
theorem YB.lo {w0 w : World} {L : List YX} (h : Hid (YB w0 w L)) (i : Nat) {g : Nat} {s t : Bool} {A B : Option Addr} {k c m d : Nat} {x y : Dy} (hi : L[i]? = some ⟨g, s, A, k, c, t, B, m, d, x, y⟩) : Hid (DV w (.agg #[.bool s, .slice A k c, .int .i64 x.e]) x) := DV.of (Lib.hid (h.out.all i _ hi).2.1)
theorem YB.hi {w0 w : World} {L : List YX} (h : Hid (YB w0 w L)) (i : Nat) {g : Nat} {s t : Bool} {A B : Option Addr} {k c m d : Nat} {x y : Dy} (hi : L[i]? = some ⟨g, s, A, k, c, t, B, m, d, x, y⟩) : Hid (DV w (.agg #[.bool t, .slice B m d, .int .i64 y.e]) y) := DV.of (Lib.hid (h.out.all i _ hi).2.2)

/-! ### Balls as values -/
def isB (x y : Dy) : VP := fun v w => BV w v x y
theorem isB.lasts (x y : Dy) : Lasts (isB x y) := fun _ _ _ h ho => h.only ho
theorem all_isB {x y : Dy} {w : World} {K : Value → Prop} (h : ∀ s A k c t B m d, Hid (IV w (.agg #[.bool s, .slice A k c]) x.z) → Hid (IV w (.agg #[.bool t, .slice B m d]) y.z) → K (.agg #[.bool s, .slice A k c, .int .i64 x.e, .bool t, .slice B m d, .int .i64 y.e])) : ∀ v, isB x y v w → K v := fun v ⟨s, A, k, c, t, B, m, d, h1, h2, h3⟩ => by
  subst h1
  exact h s A k c t B m d h2 h3
theorem BV.of {w : World} {x y : Dy} {s t : Bool} {A B : Option Addr} {k c m d : Nat} (h : Hid (IV w (.agg #[.bool s, .slice A k c]) x.z)) (h' : Hid (IV w (.agg #[.bool t, .slice B m d]) y.z)) : Hid (BV w (.agg #[.bool s, .slice A k c, .int .i64 x.e, .bool t, .slice B m d, .int .i64 y.e]) x y) := ⟨s, A, k, c, t, B, m, d, rfl, h.out, h'.out⟩
end Go.Proofs.YtigpnopeacicpaaGreatDoor
