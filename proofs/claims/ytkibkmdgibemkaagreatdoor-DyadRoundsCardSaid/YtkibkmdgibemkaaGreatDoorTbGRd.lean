/-
  The reference's dyads: what a struct reads as.
-/
import Derived.Test.YtkibkmdgibemkaaGreatDoorTbGRef
import Derived.Test.YtkibkmdgibemkaaGreatDoorTbGDyA
import Derived.Test.YtkibkmdgibemkaaGreatDoorTbRDiv
import Derived.Test.YtkibkmdgibemkaaGreatDoorTbGNV
import Derived.Laws.Shifts
import Derived.Laws.Bits64b
import Derived.IntWalk
import Derived.Test.YtkibkmdgibemkaaGreatDoorTbGRefS
namespace Go.Proofs.YtkibkmdgibemkaaGreatDoor
set_option linter.unusedSimpArgs false
open Go.RowKit

/-- Sign and length as the reference tells them. -/
def Cr (s : Bool) (k : Nat) (z : Int) : Prop := s = decide (z < 0) ∧ k = (R.limbsOf z.natAbs).length
/-- A value that reads as a dyad of the reference's. -/
def RD (w : World) (v : Value) (x : Dy) : Prop := ∃ s A k c, v = .agg #[.bool s, .slice A k c, .int .i64 x.e] ∧ Cr s k x.z ∧ RV w (.slice A k c) x.z.natAbs
theorem RD.only {w w' : World} {v : Value} {x : Dy} (h : RD w v x) (ho : Only [] w w') : RD w' v x := by
  obtain ⟨s, A, k, c, h1, h2, h3⟩ := h
  exact ⟨s, A, k, c, h1, h2, h3.only ho⟩
def isRD (x : Dy) : VP := fun u w => RD w u x
theorem isRD.lasts (x : Dy) : Lasts (isRD x) := fun _ _ _ h ho => h.only ho
theorem all_isRD {x : Dy} {w : World} {K : Value → Prop} (h : ∀ s A k c, Hid (RV w (.slice A k c) x.z.natAbs) → Hid (Cr s k x.z) → K (.agg #[.bool s, .slice A k c, .int .i64 x.e])) : ∀ v, isRD x v w → K v := fun v ⟨s, A, k, c, h1, h2, h3⟩ => by
  subst h1
  exact h s A k c h3 h2
theorem RD.of {x : Dy} {w : World} {s : Bool} {A : Option Addr} {k c : Nat} (h : Hid (RV w (.slice A k c) x.z.natAbs)) (hc : Hid (Cr s k x.z)) : Hid (RD w (.agg #[.bool s, .slice A k c, .int .i64 x.e]) x) := ⟨s, A, k, c, rfl, hc.out, h.out⟩
/-- What a function of the reference's leaves that tells a dyad. -/
def RDP (x : Dy) (w : World) (e : Ending) (w' : World) : Prop := ∃ s A k c, e = .returned (.agg #[.bool s, .slice A k c, .int .i64 x.e]) ∧ Cr s k x.z ∧ RV w' (.slice A k c) x.z.natAbs ∧ Only [] w w'
theorem grow_rd {f : FuncId} {args : Array Value} {w : World} {x : Dy} (h : Calls Tryz.prog f args w (RDP x w)) :
    Calls Tryz.prog f args w fun e w'' => ∃ u, e = .returned u ∧ Only [] w w'' ∧ isRD x u w'' :=
  h.mono fun _ _ ⟨s, A, k, c, he, hs, hv, ho2⟩ => ⟨_, he, ho2, s, A, k, c, rfl, hs, hv⟩
/-- A number of the reference's. -/
def isRN (n : Nat) : VP := fun u w => ∃ A k c, u = .slice A k c ∧ RV w u n
theorem isRN.lasts (n : Nat) : Lasts (isRN n) := fun _ _ _ ⟨A, k, c, h1, h3⟩ ho => ⟨A, k, c, h1, h3.only ho⟩
theorem all_isRN {n : Nat} {w : World} {K : Value → Prop} (h : ∀ A k c, Hid (RV w (.slice A k c) n) → K (.slice A k c)) : ∀ v, isRN n v w → K v := fun v ⟨A, k, c, h1, h3⟩ => by
  subst h1
  exact h A k c h3
theorem grow_rn {f : FuncId} {args : Array Value} {w : World} {n : Nat} (h : Calls Tryz.prog f args w (RPost n w)) :
    Calls Tryz.prog f args w fun e w'' => ∃ u, e = .returned u ∧ Only [] w w'' ∧ isRN n u w'' :=
  h.mono fun _ _ ⟨A, k, c, he, hv, _, ho2⟩ => ⟨_, he, ho2, A, k, c, rfl, hv⟩
theorem RV.len {w : World} {A : Option Addr} {k c n : Nat} (h : RV w (.slice A k c) n) : k = (R.limbsOf n).length := by
  obtain ⟨A', c', e, _, _⟩ := h
  injection e
theorem RV.farS {w w' : World} {S : List Nat} {A : Option Addr} {k c n : Nat} (h : RV w (.slice A k c) n) (ho : Only S w w') (hf : ∀ g ∈ S, Far g A k) : RV w' (.slice A k c) n := by
  obtain ⟨A', c', e, h2, h3⟩ := h
  injection e with e1 e2 e3
  subst e1 e3
  refine ⟨A, c, by rw [e2], fun j hj => ?_, h3⟩
  obtain ⟨b, o, rfl, hc⟩ := h2 j hj
  exact ⟨b, o, rfl, ho.cell hc (fun hm => hf b hm (by omega) ⟨b, o, none⟩ rfl rfl)⟩
theorem RV.far_blk {w : World} {A : Option Addr} {k c g n : Nat} {t : TypeId} {cs : List Value} (h : RV w (.slice A k c) n) (hb : Blk w g t cs) (hn : NoLimb cs) : Far g A k := fun hk p hp hc => by
  obtain ⟨A', c', e, h2, h3⟩ := h
  injection e with e1 e2 e3
  subst e1
  obtain ⟨b, o, e4, hcell⟩ := h2 0 (by omega)
  rw [hp] at e4
  injection e4 with e4
  subst e4
  have hc2 : b = g := hc
  subst hc2
  rw [hb.cell] at hcell
  exact hn _ _ hcell
/-- A struct's three cells, written behind a result. -/
theorem rdfin {x : Dy} {w w1 w2 : World} {b : Nat} {t : TypeId} {cs : List Value} {s : Bool} {A : Option Addr} {k c : Nat} (hv : Hid (RV w1 (.slice A k c) x.z.natAbs)) (hc : Hid (Cr s k x.z)) (hb : w.heap.size ≤ b) (hB : Blk w1 b t cs) (hn : NoLimb cs) (ho : Only [] w w1) (ho2 : Only [b] w1 w2) :
    RDP x w (.returned (.agg #[.bool s, .slice A k c, .int .i64 x.e])) w2 :=
  ⟨s, A, k, c, rfl, hc.out, hv.out.farS ho2 (fun g hg => by rw [List.mem_singleton] at hg; subst hg; exact hv.out.far_blk hB hn), ho.trans ho2 (fun k hk => .inr (by simp at hk; omega))⟩
theorem few_bits {n : Nat} (h : Few n) : (bitsN n : Int) ≤ 64000000 := by
  have h1 : n < 2 ^ (64 * MX) := by rw [← bb_two_pow]; exact h
  have := bitsN_le h1
  rw [MX_val] at this
  omega
theorem sg_lt {s : Bool} {n : Nat} (h : n ≠ 0) : decide (sg s n < 0) = s := by
  cases s
  · rw [sg_false]; exact decide_eq_false (by omega)
  · rw [sg_true]; exact decide_eq_true (by omega)
/-- Sign and amount of what Make makes. -/
theorem nrm_sg {s : Bool} {n : Nat} (e : Int) (h : n ≠ 0) : nrm (sg s n) e = ⟨sg s (n / 2 ^ lowN n), e + (lowN n : Int)⟩ ∧ s = decide (sg s (n / 2 ^ lowN n) < 0) := by
  have h1 : sg s n ≠ 0 := by cases s <;> simp only [sg_true, sg_false] <;> omega
  have hd : decide (sg s n < 0) = s := sg_lt h
  obtain ⟨m, h2, h3, -⟩ := nrm_split h1
  rw [sg_abs] at h2 h3
  refine ⟨by rw [nrm_nz e h1, hd, sg_abs], ?_⟩
  rw [h3, sg_lt (by omega)]
end Go.Proofs.YtkibkmdgibemkaaGreatDoor
/-
  The reference's numbers: how many zero bits one ends with.
-/
namespace Go.Proofs.YtkibkmdgibemkaaGreatDoor
open Go.RowKit

theorem rlow_at {xs : List Nat} {i k : Nat} (hi : i < xs.length) (hz : ∀ j, j < i → xs[j]?.getD 0 = 0) (hk : k < 32) (h0 : xs[i]?.getD 0 % 2 ^ k = 0) (h1 : xs[i]?.getD 0 / 2 ^ k % 2 = 1) : lowN (R.val xs) = 32 * i + k := by
  have e1 := R.val_take_drop xs i (by omega)
  have e2 : R.val (xs.take i) = 0 := by
    have : xs.take i = List.replicate i 0 := by
      apply List.ext_getElem
      · simp; omega
      · intro j h1 h2
        simp only [List.getElem_take, List.getElem_replicate]
        simp only [List.length_take, List.length_replicate] at h1 h2
        have := hz j h2
        rw [List.getElem?_eq_getElem (by omega)] at this
        simpa using this
    rw [this, R.val_zeros]
  have e3 := R.val_drop_cons xs i hi
  generalize xs[i]?.getD 0 = x at *
  rw [e2, Nat.zero_add, e3] at e1
  have hp : 0 < 2 ^ k := Nat.pow_pos (by omega)
  have e4 := Nat.div_add_mod x (2 ^ k)
  rw [h0, Nat.add_zero] at e4
  obtain ⟨t, ht⟩ : ∃ t, x / 2 ^ k = 2 * t + 1 := ⟨x / 2 ^ k / 2, by omega⟩
  rw [ht] at e4
  have e5 : R.BB = 2 ^ k * (2 * 2 ^ (31 - k)) := by
    rw [R.BB_pow, Nat.mul_comm 2, ← Nat.pow_succ, ← Nat.pow_add]
    congr 1
    omega
  have e6 : R.val xs = 2 ^ (32 * i + k) * (2 * (t + 2 ^ (31 - k) * R.val (xs.drop (i + 1))) + 1) := by
    rw [e1, ← e4]
    generalize R.val (xs.drop (i + 1)) = v at *
    have e7 : R.BB ^ i = 2 ^ (32 * i) := by rw [R.BB_pow, Nat.pow_mul]
    rw [e7, Nat.pow_add, Nat.mul_assoc]
    congr 1
    rw [e5]
    generalize 2 ^ (31 - k) = u at *
    rw [Nat.mul_assoc, ← Nat.mul_add, Nat.mul_assoc 2 u v]
    congr 1
    omega
  rw [e6, lowN_is]

theorem and_one_u64 (y : Nat) (h : y < 18446744073709551616) : bits .and .u64 (y : Int) 1 = ((y % 2 : Nat) : Int) := by
  have := bits_and_u64_nat y 1 h (by omega)
  rw [Nat.and_one_is_mod] at this
  exact this
set_option maxHeartbeats 1600000 in
set_option maxRecDepth 100000 in
theorem rlow_v {w : World} {a : Value} {m : Nat} (ha : Hid (RV w a m)) (hf : Hid (Few m)) : Calls Tryz.prog 161 #[a] w fun e w' => e = .returned (.int .i64 (lowN m : Int)) ∧ w = w' := by
  have hl := hf.out.digits
  obtain ⟨A, c, rfl, p1, p2⟩ := ha.out
  have HX := Lib.hid (R.limb_limbsOf m)
  have HV := Lib.hid (R.val_limbsOf m)
  have HA := Lib.hid p1
  generalize R.limbsOf m = xs at *
  obtain ⟨n, hn⟩ : ∃ n, xs.length = n := ⟨_, rfl⟩
  have HN := Lib.hid hn
  rw [hn] at hl ⊢
  clear p1 p2 ha hn
  go_enter Tryz.func161, Tryz.ntmps161
  go_wp2_with fail
  go_loop [3, 4] (fun nv iv => ∃ i : Nat, i ≤ n ∧ nv = .int .i64 (32 * (i : Int)) ∧ iv = .int .i64 (i : Int) ∧ ∀ j, j < i → xs[j]?.getD 0 = 0) (fun _ iv => n - (intOf iv).toNat)
  case atStart => exact ⟨0, Nat.zero_le _, rfl, rfl, fun j h => by omega⟩
  case round =>
    obtain ⟨i, hi, rfl, rfl, hz⟩ := hrel
    have HZ := Lib.hid hz
    clear hz
    by_cases hlt : i < n
    · have hlti : (i : Int) < (n : Int) := by omega
      have HLt := Lib.hid hlt
      obtain ⟨b, o, rfl, hc⟩ := HA.out i (by have := HN.out; omega)
      have HXi := Lib.hid (HX.out.get i)
      obtain ⟨x, hx⟩ : ∃ x, xs[i]?.getD 0 = x := ⟨_, rfl⟩
      have HXx := Lib.hid hx
      rw [hx] at hc HXi
      clear hx hlt
      go_wp2_with fail
      go_loopw [3, 5] (fun nv kv wr => ∃ k : Nat, k ≤ 32 ∧ nv = .int .i64 (32 * (i : Int) + (k : Int)) ∧ kv = .int .i64 (k : Int) ∧ x % 2 ^ k = 0 ∧ wr = w) (fun _ kv _ => 32 - (intOf kv).toNat)
      case atStart => exact ⟨0, by omega, by simp, rfl, by rw [Nat.pow_zero]; exact Nat.mod_one _, rfl⟩
      case round =>
        obtain ⟨k, hk, rfl, rfl, hm, rfl⟩ := hrel
        have HM := Lib.hid hm
        clear hm
        by_cases hk32 : k < 32
        · have hki : (k : Int) < 32 := by omega
          have hk64 : (k : Int) ≤ 64 := by omega
          obtain ⟨y, hy⟩ : ∃ y, x / 2 ^ k = y := ⟨_, rfl⟩
          have hd1 : (x : Int) / 2 ^ k = (y : Int) := by rw [← hy]; simp
          have hyl : y < 4294967296 := by rw [← hy]; exact Nat.lt_of_le_of_lt (Nat.div_le_self _ _) (by have := HXi.out; rwa [R.BB_val] at this)
          have hd2 : IntKind.u64.wrap (y : Int) = (y : Int) := u64_wrap (by rw [BB_val]; omega)
          have hand := and_one_u64 y (by omega)
          have HKl := Lib.hid hk32
          have HY := Lib.hid hy
          clear hk32 hy hyl
          rcases Nat.mod_two_eq_zero_or_one y with h2 | h2
          · rw [h2] at hand
            have HN2 : Hid (x % 2 ^ (k + 1) = 0) := by
              have e1 := Nat.div_add_mod x (2 ^ k)
              rw [HM.out, HY.out, Nat.add_zero] at e1
              show _ = _
              rw [← e1, Nat.pow_succ, show y = 2 * (y / 2) by omega, ← Nat.mul_assoc]
              exact Nat.mul_mod_right _ _
            clear h2
            simp only [Int.natCast_zero] at hand
            go_wp2_with fail
            go_roundw
            case rel => exact ⟨k + 1, by have := HKl.out; omega, by go_num, by go_num, HN2.out, trivial⟩
            case measure => have := HKl.out; simp [intOf]; omega
          · rw [h2] at hand
            have HLow : Hid (lowN m = 32 * i + k) := by
              show _ = _
              rw [← HV.out]
              exact rlow_at (by have := HN.out; have := HLt.out; omega) HZ.out HKl.out (by rw [HXx.out]; exact HM.out) (by rw [HXx.out, HY.out]; exact h2)
            clear h2
            simp only [Int.natCast_one] at hand
            go_wp2_with fail
            go_ret
            exact ⟨by rw [HLow.out]; simp, rfl⟩
        · obtain rfl : k = 32 := by omega
          have HZ2 : Hid (∀ j, j < i + 1 → xs[j]?.getD 0 = 0) := fun j hj => by
            rcases Nat.lt_or_ge j i with h | h
            · exact HZ.out j h
            · obtain rfl : j = i := by omega
              have h1 := HM.out
              have h2 := HXi.out
              rw [R.BB_pow] at h2
              rw [HXx.out]
              rwa [Nat.mod_eq_of_lt h2] at h1
          clear hk32
          go_wp2_with fail
          go_round
          case rel => exact ⟨i + 1, by have := HLt.out; omega, congrArg (Value.int .i64) (by omega), by go_num, HZ2.out⟩
          case measure => have := HLt.out; simp [intOf]; omega
    · obtain rfl : i = n := by omega
      have hM0 : m = 0 := by
        have h1 : xs = List.replicate i 0 := by
          apply List.ext_getElem
          · rw [List.length_replicate]; exact HN.out
          · intro j h1 h2
            have h3 := HZ.out j (by rw [← HN.out]; exact h1)
            rw [List.getElem?_eq_getElem h1] at h3
            simpa using h3
        rw [← HV.out, h1, R.val_zeros]
      have hnl : ¬ (i : Int) < (i : Int) := by omega
      have HLow : Hid (lowN m = 0) := by rw [hM0]; exact lowN_zero
      clear hlt hM0
      go_wp2_with fail
      go_ret
      exact ⟨by rw [HLow.out]; rfl, rfl⟩
end Go.Proofs.YtkibkmdgibemkaaGreatDoor
/-
  The reference's dyads: Make, Sign, Not, Int.
-/
namespace Go.Proofs.YtkibkmdgibemkaaGreatDoor
set_option linter.unusedSimpArgs false
open Go.RowKit
set_option maxHeartbeats 1600000 in
set_option maxRecDepth 100000 in
theorem rmake_d {w : World} {a : Value} {n : Nat} {r : Dy} (s : Bool) (e : Int) (ha : Hid (RV w a n)) (hf : Hid (Few n)) (h1 : -4000000000000000000 ≤ e) (h2 : e ≤ 4000000000000000000) (hr : nrm (sg s n) e = r) : Calls Tryz.prog 114 #[.bool s, a, .int .i64 e] w (RDP r w) := by
  have hb := few_bits hf.out
  have hl := ha.out
  obtain ⟨A, c, rfl, -, -⟩ := ha.out
  have hk := (KB.start w).new 62 [.bool false, .slice none 0 0, .int .i64 0]
  have HM := Lib.hid (ha.out.only hk.only)
  have HK := Lib.hid hk
  clear ha hk hl
  by_cases hn : n = 0
  · subst hn
    have hlen : (R.limbsOf 0).length = 0 := by rw [R.limbsOf_zero]; rfl
    rw [sg_zero, nrm_zero] at hr
    subst hr
    rw [hlen] at HM ⊢
    obtain ⟨c0, c1, c2, f0, f1, f2⟩ := HK.out.c3 0 rfl
    have HB := Lib.hid (HK.out.blk 0 rfl)
    have HO := Lib.hid HK.out.only
    clear HK hlen
    go_enter Tryz.func114, Tryz.ntmps114
    go_wp2_with fail
    refine bodyPost_ret (v := .agg #[.bool false, .slice none 0 0, .int .i64 (0)]) (by simp [results, Tryz.results114, go_sem, c0, c1, c2]) rfl ?_
    exact rdfin (x := ⟨0, 0⟩) (RV.nil _) ⟨by decide, by show 0 = (R.limbsOf 0).length; rw [R.limbsOf_zero]; rfl⟩ (Nat.le_refl _) HB.out (noLimb3 _ _ _ _ _) HO.out (Only.refl _ _)
  · have hk0 : (((R.limbsOf n).length : Int) == 0) = false := by
      rw [beq_eq_false_iff_ne]
      have : (R.limbsOf n).length ≠ 0 := fun h => hn (R.limbsOf_len0.1 h)
      omega
    obtain ⟨g1, g2⟩ := nrm_sg (s := s) e hn
    rw [g1] at hr
    obtain ⟨l, hle⟩ : ∃ l, lowN n = l := ⟨_, rfl⟩
    have hlb := lowN_le_bits n
    have HLo := Lib.hid hle
    rw [hle] at g2 hr hlb
    have hl9 : (l : Int) ≤ 90000000 := by omega
    have hsum : IntKind.i64.wrap (e + (l : Int)) = e + (l : Int) := wrap_i64 (by omega)
    subst hr
    have HS := Lib.hid g2
    clear hle hb g1 g2 hlb hn
    generalize (R.limbsOf n).length = k at *
    go_enter Tryz.func114, Tryz.ntmps114
    go_wp2_with fail
    (with_reducible refine (rlow_v HM hf).mono ?_)
    rintro e1 w2 ⟨rfl, rfl⟩
    rw [HLo.out]
    go_wp2_with fail
    (with_reducible refine (rshr_v l hl9 HM hf).mono ?_)
    rintro e2 w3 ⟨A1, k1, c1, rfl, hv, -, ho⟩
    have HV := Lib.hid hv
    have hk := HK.out.step ho
    obtain ⟨q0, q1, q2, f0, f1, f2⟩ := hk.c3 0 rfl
    have HB := Lib.hid (hk.blk 0 rfl)
    have HO := Lib.hid hk.only
    clear hv hk HK ho
    go_wp2_with fail
    refine bodyPost_ret (v := .agg #[.bool s, .slice A1 k1 c1, .int .i64 (e + (l : Int))]) (by simp [results, Tryz.results114, go_sem, q0, q1, q2]) rfl ?_
    exact rdfin (x := ⟨sg s (n / 2 ^ l), e + (l : Int)⟩) (by show Hid (RV _ _ (sg s (n / 2 ^ l)).natAbs); rw [sg_abs]; exact HV) ⟨HS.out, by show _ = (R.limbsOf (sg s (n / 2 ^ l)).natAbs).length; rw [sg_abs]; exact HV.out.len⟩ (Nat.le_refl _) HB.out (noLimb3 _ _ _ _ _) HO.out (only_set3 _ _ _ _ _)

set_option maxHeartbeats 800000 in
theorem rsign_d {w : World} {a : Value} {x : Dy} (p : Int) (ha : Hid (RD w a x)) (hp : x.z.sign = p) : Calls Tryz.prog 31 #[a] w fun e w' => e = .returned (.int .i64 p) ∧ Only [] w w' := by
  obtain ⟨s, A, k, c, rfl, ⟨h1, h2⟩, -⟩ := ha.out
  have hk := (KB.start w).new 62 [.bool s, .slice A k c, .int .i64 x.e]
  obtain ⟨q0, q1, q2, -, -, -⟩ := hk.c3 0 rfl
  have HO := Lib.hid hk.only
  have hz := sign_of x.z
  have hl0 : k = 0 ↔ x.z = 0 := by rw [h2, R.limbsOf_len0]; omega
  clear ha hk h2
  rcases hz with ⟨e1, e2⟩ | ⟨e1, e2⟩ | ⟨e1, e2⟩ <;> rw [e1] at hp <;> subst hp
  · have hk0 : ((k : Int) == 0) = false := by rw [beq_eq_false_iff_ne]; omega
    obtain rfl : s = true := by rw [h1]; simpa using e2
    clear h1 e1 e2 hl0
    go_enter Tryz.func31, Tryz.ntmps31
    go_wp2_with fail
    go_ret
    exact ⟨rfl, HO.out⟩
  · obtain rfl : k = 0 := hl0.2 e2
    clear h1 e1 e2 hl0
    go_enter Tryz.func31, Tryz.ntmps31
    go_wp2_with fail
    go_ret
    exact ⟨rfl, HO.out⟩
  · have hk0 : ((k : Int) == 0) = false := by rw [beq_eq_false_iff_ne]; omega
    obtain rfl : s = false := by rw [h1]; simp; omega
    clear h1 e1 e2 hl0
    go_enter Tryz.func31, Tryz.ntmps31
    go_wp2_with fail
    go_ret
    exact ⟨rfl, HO.out⟩
theorem rlim_i64 {N : Nat} {x : Dy} (h : Bnd N x) (hN : N ≤ 8000000) : -8000000 ≤ x.e ∧ x.e ≤ 8000000 := by have := h.lo; have := h.hi; omega
theorem rd_few {N : Nat} {x : Dy} (h : Bnd N x) (hN : N ≤ 8000000) : Few x.z.natAbs := few_two_pow h.z (by omega)
end Go.Proofs.YtkibkmdgibemkaaGreatDoor
/-
  The reference's dyads: Mul, Add.
-/
namespace Go.Proofs.YtkibkmdgibemkaaGreatDoor
set_option linter.unusedSimpArgs false
open Go.RowKit

theorem rshlV_v {w : World} {a : Value} {m : Nat} (n r : Nat) (hn : (n : Int) ≤ 90000000) (ha : Hid (RV w a m)) (hf : Hid (Few m)) (hr : m * 2 ^ n = r) : Calls Tryz.prog 91 #[a, .int .i64 (n : Int)] w (RPost r w) := hr ▸ rshl_v n hn ha hf
end Go.Proofs.YtkibkmdgibemkaaGreatDoor
/-
  The reference's dyads: Sub, Top, Cmp, Same.
-/
namespace Go.Proofs.YtkibkmdgibemkaaGreatDoor
set_option linter.unusedSimpArgs false
open Go.RowKit

theorem rbitsV_v {w : World} {a : Value} {m : Nat} (b : Nat) (ha : Hid (RV w a m)) (hfa : Hid (Few m)) (hb : bitsN m = b) : Calls Tryz.prog 90 #[a] w fun e w' => e = .returned (.int .i64 (b : Int)) ∧ w = w' := hb ▸ rbits_v ha hfa
end Go.Proofs.YtkibkmdgibemkaaGreatDoor
/-
  The reference's dyad of a dyad.
-/
namespace Go.Proofs.YtkibkmdgibemkaaGreatDoor
set_option linter.unusedSimpArgs false
open Go.RowKit

set_option maxHeartbeats 1600000 in
set_option maxRecDepth 100000 in
theorem rref_d {w : World} {a : Value} {x : Dy} {N : Nat} (ha : Hid (DV w a x)) (bx : Hid (Bnd N x)) (hN : N ≤ 8000000) : Calls Tryz.prog 29 #[a] w (RDP (nrm x.z x.e) w) := by
  have HF := Lib.hid (rd_few bx.out hN)
  have he := rlim_i64 bx.out hN
  obtain ⟨s, A, k, c, rfl, hv⟩ := ha.out
  have hk := ((KB.start w).new 59 [.bool s, .slice A k c, .int .i64 x.e]).new 62 [.bool false, .slice none 0 0, .int .i64 0]
  simp only [World.size_alloc] at hk
  have HM := Lib.hid (hv.mag.only hk.only)
  have HS : Hid (nrm (sg s x.z.natAbs) x.e = nrm x.z x.e) := by show _ = _; rw [hv.sign]
  have HK := Lib.hid hk
  clear hk hv ha
  go_enter Tryz.func29, Tryz.ntmps29
  go_upto_region 1 with fail
  apply wp_region_typed_tail2 10 (by kernel_rfl) [isV _, isV _, isV _, isV _, isV _, isV _, isRN x.z.natAbs, isV _, isV _, isRD (nrm x.z x.e)] [[], [0], [1], [], [3], [4], [5], [], [7], [2, 6, 8]] (by kernel_rfl) (by kernel_rfl) (by kernel_rfl)
  case ho =>
    simp only [List.take_succ_cons, List.take_zero]
    refine owes2_cons (fun wx hox => ?_) ?_
    · skip
      skip
      refine withs_plain rfl ?_
      simp only [withs, List.getElem?_cons_zero, List.getElem?_cons_succ, Option.bind, Option.getD]
      repeat (first | (with_reducible refine all_isV ?_) | (with_reducible refine all_isRD ?_; intro sx Ax kx cx hvx hwx) | (with_reducible refine all_isRN ?_; intro Ax kx cx hvx))
      go_simp
      exact ⟨Only.refl _ _, isV.self _ _⟩
    refine owes2_cons (fun wx hox => ?_) ?_
    · skip
      skip
      refine withs_plain rfl ?_
      simp only [withs, List.getElem?_cons_zero, List.getElem?_cons_succ, Option.bind, Option.getD]
      repeat (first | (with_reducible refine all_isV ?_) | (with_reducible refine all_isRD ?_; intro sx Ax kx cx hvx hwx) | (with_reducible refine all_isRN ?_; intro Ax kx cx hvx))
      go_simp
      exact ⟨Only.refl _ _, isV.self _ _⟩
    refine owes2_cons (fun wx hox => ?_) ?_
    · skip
      have hk := HK.out.step hox
      obtain ⟨i0, i1, i2, -, -, -⟩ := hk.c3 1 rfl
      clear hk
      refine withs_plain rfl ?_
      simp only [withs, List.getElem?_cons_zero, List.getElem?_cons_succ, Option.bind, Option.getD]
      repeat (first | (with_reducible refine all_isV ?_) | (with_reducible refine all_isRD ?_; intro sx Ax kx cx hvx hwx) | (with_reducible refine all_isRN ?_; intro Ax kx cx hvx))
      go_simp
      exact ⟨Only.refl _ _, isV.self _ _⟩
    refine owes2_cons (fun wx hox => ?_) ?_
    · skip
      skip
      refine withs_plain rfl ?_
      simp only [withs, List.getElem?_cons_zero, List.getElem?_cons_succ, Option.bind, Option.getD]
      repeat (first | (with_reducible refine all_isV ?_) | (with_reducible refine all_isRD ?_; intro sx Ax kx cx hvx hwx) | (with_reducible refine all_isRN ?_; intro Ax kx cx hvx))
      go_simp
      exact ⟨Only.refl _ _, isV.self _ _⟩
    refine owes2_cons (fun wx hox => ?_) ?_
    · skip
      skip
      refine withs_plain rfl ?_
      simp only [withs, List.getElem?_cons_zero, List.getElem?_cons_succ, Option.bind, Option.getD]
      repeat (first | (with_reducible refine all_isV ?_) | (with_reducible refine all_isRD ?_; intro sx Ax kx cx hvx hwx) | (with_reducible refine all_isRN ?_; intro Ax kx cx hvx))
      go_simp
      exact ⟨Only.refl _ _, isV.self _ _⟩
    refine owes2_cons (fun wx hox => ?_) ?_
    · skip
      have hk := HK.out.step hox
      obtain ⟨i0, i1, i2, -, -, -⟩ := hk.c3 1 rfl
      clear hk
      refine withs_plain rfl ?_
      simp only [withs, List.getElem?_cons_zero, List.getElem?_cons_succ, Option.bind, Option.getD]
      repeat (first | (with_reducible refine all_isV ?_) | (with_reducible refine all_isRD ?_; intro sx Ax kx cx hvx hwx) | (with_reducible refine all_isRN ?_; intro Ax kx cx hvx))
      go_simp
      exact ⟨Only.refl _ _, isV.self _ _⟩
    refine owes2_cons (fun wx hox => ?_) ?_
    · skip
      have hk := HK.out.step hox
      obtain ⟨i0, i1, i2, -, -, -⟩ := hk.c3 1 rfl
      clear hk
      refine withs_plain rfl ?_
      simp only [withs, List.getElem?_cons_zero, List.getElem?_cons_succ, Option.bind, Option.getD]
      repeat (first | (with_reducible refine all_isV ?_) | (with_reducible refine all_isRD ?_; intro sx Ax kx cx hvx hwx) | (with_reducible refine all_isRN ?_; intro Ax kx cx hvx))
      go_simp
      (with_reducible exact grow_rn (from_v (Lib.hid (HM.out.only hox))))
    refine owes2_cons (fun wx hox => ?_) ?_
    · skip
      skip
      refine withs_plain rfl ?_
      simp only [withs, List.getElem?_cons_zero, List.getElem?_cons_succ, Option.bind, Option.getD]
      repeat (first | (with_reducible refine all_isV ?_) | (with_reducible refine all_isRD ?_; intro sx Ax kx cx hvx hwx) | (with_reducible refine all_isRN ?_; intro Ax kx cx hvx))
      go_simp
      exact ⟨Only.refl _ _, isV.self _ _⟩
    refine owes2_cons (fun wx hox => ?_) ?_
    · skip
      have hk := HK.out.step hox
      obtain ⟨i0, i1, i2, -, -, -⟩ := hk.c3 1 rfl
      clear hk
      refine withs_plain rfl ?_
      simp only [withs, List.getElem?_cons_zero, List.getElem?_cons_succ, Option.bind, Option.getD]
      repeat (first | (with_reducible refine all_isV ?_) | (with_reducible refine all_isRD ?_; intro sx Ax kx cx hvx hwx) | (with_reducible refine all_isRN ?_; intro Ax kx cx hvx))
      go_simp
      exact ⟨Only.refl _ _, isV.self _ _⟩
    refine owes2_cons (fun wx hox => ?_) ?_
    · skip
      have hk := HK.out.step hox
      obtain ⟨i0, i1, i2, -, -, -⟩ := hk.c3 1 rfl
      clear hk
      refine withs_plain rfl ?_
      simp only [withs, List.getElem?_cons_zero, List.getElem?_cons_succ, Option.bind, Option.getD]
      repeat (first | (with_reducible refine all_isV ?_) | (with_reducible refine all_isRD ?_; intro sx Ax kx cx hvx hwx) | (with_reducible refine all_isRN ?_; intro Ax kx cx hvx))
      go_simp
      (with_reducible exact grow_rd (rmake_d s x.e (by assumption) HF (by omega) (by omega) HS.out))
    exact owes2_nil
  case he =>
    simp only [List.drop_succ_cons, List.drop_zero]
    intro wx hox
    refine withs_of (by simp only [List.length, List.range, List.range.loop]; exact rfl) ?_
    simp only [withs, List.getElem?_cons_zero, List.getElem?_cons_succ, Option.bind, Option.getD]
    with_reducible refine all_isV ?_
    with_reducible refine all_isV ?_
    with_reducible refine all_isV ?_
    with_reducible refine all_isV ?_
    with_reducible refine all_isV ?_
    with_reducible refine all_isV ?_
    with_reducible refine all_isRN ?_
    intro A6 k6 c6 hv6
    with_reducible refine all_isV ?_
    with_reducible refine all_isV ?_
    with_reducible refine all_isRD ?_
    intro s9 A9 k9 c9 hv9 hw9
    go_simp
    have hk := HK.out.step hox
    obtain ⟨q0, q1, q2, f0, f1, f2⟩ := hk.c3 0 rfl
    have HB := Lib.hid (hk.blk 0 rfl)
    have HO := Lib.hid hk.only
    clear hk hox HK
    generalize nrm x.z x.e = r at *
    go_wp2_with fail
    refine bodyPost_ret (v := .agg #[.bool s9, .slice A9 k9 c9, .int .i64 (r.e)]) (by simp [results, Tryz.results29, go_sem, q0, q1, q2]) rfl ?_
    exact rdfin hv9 hw9 (by omega) HB.out (noLimb3 _ _ _ _ _) HO.out (only_set3 _ _ _ _ _)
  case hl =>
    repeat (refine List.forall_mem_cons.2 ⟨?_, ?_⟩; first | exact isV.lasts _ | exact isRD.lasts _ | exact isRN.lasts _)
    exact fun _ h => (by cases h)
/-- A dyad of the reference's in a box. -/
structure QB (w : World) (g : Nat) (s : Bool) (A : Option Addr) (k c : Nat) (x : Dy) : Prop where
  blk : Blk w g 62 [.bool s, .slice A k c, .int .i64 x.e]
  val : RV w (.slice A k c) x.z.natAbs
  cr : Cr s k x.z
theorem QB.new {w : World} {s : Bool} {A : Option Addr} {k c : Nat} {x : Dy} (hv : RV w (.slice A k c) x.z.natAbs) (hc : Cr s k x.z) : QB (w.alloc (.cells #[.bool s, .slice A k c, .int .i64 x.e] 62)) w.heap.size s A k c x :=
  ⟨Blk.new w 62 _, hv.only ((Only.refl [] w).alloc _), hc⟩
theorem QB.step {w w' : World} {g : Nat} {s : Bool} {A : Option Addr} {k c : Nat} {x : Dy} (h : QB w g s A k c x) (ho : Only [] w w') : QB w' g s A k c x := ⟨h.blk.only ho (by simp), h.val.only ho, h.cr⟩
theorem QB.far {w w' : World} {g b : Nat} {s : Bool} {A : Option Addr} {k c : Nat} {x : Dy} {t : TypeId} {cs : List Value} (h : QB w g s A k c x) (ho : Only [b] w w') (hne : g ≠ b) (hb : Blk w b t cs) (hn : NoLimb cs) : QB w' g s A k c x :=
  ⟨h.blk.only ho (by simpa using hne), h.val.farS ho (fun g' hg' => by rw [List.mem_singleton] at hg'; subst hg'; exact h.val.far_blk hb hn), h.cr⟩
theorem QB.cells {w : World} {g : Nat} {s : Bool} {A : Option Addr} {k c : Nat} {x : Dy} (h : Hid (QB w g s A k c x)) : w.cell? ⟨g, 0, none⟩ = some (.bool s) ∧ w.cell? ⟨g, 1, none⟩ = some (.slice A k c) ∧ w.cell? ⟨g, 2, none⟩ = some (.int .i64 x.e) := ⟨h.out.blk.cell 0, h.out.blk.cell 1, h.out.blk.cell 2⟩

end Go.Proofs.YtkibkmdgibemkaaGreatDoor
