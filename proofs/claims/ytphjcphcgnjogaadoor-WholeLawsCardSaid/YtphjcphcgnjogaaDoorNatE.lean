/-
  nat: math/bits' Mul64, Len64, LeadingZeros64; products limb by limb.
-/
import Derived.Test.YtphjcphcgnjogaaDoorNatD
import Derived.Test.YtphjcphcgnjogaaDoorShelf
import Derived.IntWalk
namespace Go.Proofs.YtphjcphcgnjogaaDoor
open Go.RowKit

def mHi (x y : Nat) : Nat := x * y / BB
def mLo (x y : Nat) : Nat := x * y % BB
theorem mul64_any (x y : Nat) (hx : x < BB) (hy : y < BB) (w : World) :
    Calls Tryd.prog 97 #[.int .u64 (x : Int), .int .u64 (y : Int)] w fun e w' => e = .returned (.tuple #[.int .u64 ((mHi x y : Nat) : Int), .int .u64 ((mLo x y : Nat) : Int)]) ∧ w = w' := by
  rw [BB_val] at hx hy
  refine (Tryd.bits_Mul64 x y hx hy w).mono ?_
  rintro e w' ⟨he, hw⟩
  unfold mHi mLo
  rw [BB_val]
  exact ⟨he, hw.symm⟩
theorem mul64_law (x y : Nat) : mLo x y + BB * mHi x y = x * y := Nat.mod_add_div _ _
theorem mLo_lt (x y : Nat) : mLo x y < BB := Nat.mod_lt _ BB_pos
theorem mHi_le {x y : Nat} (hx : x < BB) (hy : y < BB) : mHi x y + 2 ≤ BB := by
  have hp := BB_pos
  have h1 : x * y ≤ (BB - 1) * (BB - 1) := Nat.mul_le_mul (by omega) (by omega)
  have h2 := mul64_law x y
  obtain ⟨k, hk⟩ : ∃ k, BB = k + 1 := ⟨BB - 1, by omega⟩
  rw [hk, Nat.add_sub_cancel] at h1
  have h3 : mHi x y < k := by
    apply Nat.lt_of_not_le
    intro h
    have h4 : BB * k ≤ BB * mHi x y := Nat.mul_le_mul_left _ h
    have h5 : BB * k = k * k + k := by rw [hk, Nat.add_mul, Nat.one_mul]
    have hk1 := BB_two
    omega
  omega
theorem u64_wrap {a : Nat} (h : a < BB) : IntKind.u64.wrap (a : Int) = (a : Int) := by
  rw [BB_val] at h
  rw [IntKind.wrap_u64]
  omega
theorem u64_add {a b c : Nat} (h : a + b = c) (hc : c < BB) : IntKind.u64.wrap ((a : Int) + (b : Int)) = (c : Int) := by
  rw [← Int.natCast_add, h]
  exact u64_wrap hc

/-- One step of a row of products. -/
structure MStep (v y z cy lo1 c1 hi1 lo2 c2 hi2 : Nat) : Prop where
  a1 : lo1 = aLo (mLo v y) z 0
  a2 : c1 = aHi (mLo v y) z 0
  a3 : hi1 = mHi v y + c1
  a4 : lo2 = aLo lo1 cy 0
  a5 : c2 = aHi lo1 cy 0
  a6 : hi2 = hi1 + c2
  law : lo2 + BB * hi2 = z + v * y + cy
  lt : hi2 < BB
  lt1 : hi1 < BB
  lo : lo2 < BB
theorem mstep {v y z cy : Nat} (hv : v < BB) (hy : y < BB) (hz : z < BB) (hc : cy < BB) : ∃ lo1 c1 hi1 lo2 c2 hi2, MStep v y z cy lo1 c1 hi1 lo2 c2 hi2 := by
  have h1 := mul64_law v y
  have h2 := add64_law (mLo v y) z 0
  have h3 := add64_law (aLo (mLo v y) z 0) cy 0
  have h4 := aHi_le (mLo_lt v y) hz (Nat.zero_le 1)
  have h5 := aHi_le (aLo_lt (mLo v y) z 0) hc (Nat.zero_le 1)
  have h6 := mHi_le hv hy
  have hlaw : aLo (aLo (mLo v y) z 0) cy 0 + BB * (mHi v y + aHi (mLo v y) z 0 + aHi (aLo (mLo v y) z 0) cy 0) = z + v * y + cy := by
    rw [Nat.mul_add, Nat.mul_add]
    omega
  have hlt : mHi v y + aHi (mLo v y) z 0 + aHi (aLo (mLo v y) z 0) cy 0 < BB := by
    apply Nat.lt_of_not_le
    intro h
    have h7 := Nat.mul_le_mul_left BB h
    have h8 : v * y ≤ (BB - 1) * (BB - 1) := Nat.mul_le_mul (by omega) (by omega)
    obtain ⟨k, hk⟩ : ∃ k, BB = k + 1 := ⟨BB - 1, by have := BB_pos; omega⟩
    have h9 : BB * BB = k * k + 2 * k + 1 := by rw [hk, Nat.add_mul, Nat.mul_add]; omega
    rw [hk, Nat.add_sub_cancel] at h8
    omega
  exact ⟨_, _, _, _, _, _, rfl, rfl, rfl, rfl, rfl, rfl, hlaw, hlt, by omega, aLo_lt _ _ _⟩
theorem val_nil : val [] = 0 := rfl

/-- Where a row of a product stands. -/
structure MCar (w wr : World) (g : Nat) (L : Nat) (zs : List Nat) (i cy T m : Nat) : Prop where
  blk : Blk wr g 64 (limbV zs)
  limb : Limb zs
  len : zs.length = L
  cylt : cy < BB
  val_ : val zs + BB ^ i * cy = T
  high : ∀ k, m ≤ k → zs[k]?.getD 0 = 0
  only : Only [g] w wr
theorem MCar.step {w wr : World} {g L : Nat} {zs : List Nat} {i cy T m v y : Nat} (h : MCar w wr g L zs i cy T m) (hi : i < L) (him : i < m) {lo1 c1 hi1 lo2 c2 hi2 : Nat} (hs : MStep v y (zs[i]?.getD 0) cy lo1 c1 hi1 lo2 c2 hi2) {T' : Nat} (hT : T' = T + BB ^ i * (v * y)) :
    MCar w (wr.setCell ⟨g, i, none⟩ (.int .u64 (lo2 : Int))) g L (zs.set i lo2) (i + 1) hi2 T' m := by
  refine ⟨?_, h.limb.set _ _ hs.lo, by rw [List.length_set, h.len], hs.lt, ?_, fun k hk => ?_, h.only.trans ((Only.refl [g] wr).setCell (.inl (by simp)) _) (by simp)⟩
  · rw [← limbV_set]
    exact h.blk.set_ i _
  · rw [add_step (by rw [h.len]; exact hi) hs.law, hT, ← h.val_]
    omega
  · rw [set_get_ne (by omega)]
    exact h.high k hk
/-- The carry goes into the limb behind the row. -/
theorem MCar.close {w wr : World} {g L : Nat} {zs : List Nat} {i cy T : Nat} (h : MCar w wr g L zs i cy T i) (hi : i < L) :
    MCar w (wr.setCell ⟨g, i, none⟩ (.int .u64 (cy : Int))) g L (zs.set i cy) 0 0 T (i + 1) := by
  refine ⟨?_, h.limb.set _ _ h.cylt, by rw [List.length_set, h.len], BB_pos, ?_, fun k hk => ?_, h.only.trans ((Only.refl [g] wr).setCell (.inl (by simp)) _) (by simp)⟩
  · rw [← limbV_set]
    exact h.blk.set_ i _
  · have h1 := val_set zs i cy (by rw [h.len]; exact hi)
    rw [h.high i (Nat.le_refl _)] at h1
    have := h.val_
    omega
  · rw [set_get_ne (by omega)]
    exact h.high k (by omega)

set_option maxHeartbeats 3200000 in
theorem school_any (A B : Option Addr) (c d : Nat) (xs ys : List Nat) (w : World) (hA : Hid (Arg w A xs)) (hB : Hid (Arg w B ys)) (hl : (xs.length : Int) + ys.length ≤ 4000000) :
    Calls Tryd.prog 77 #[.slice A xs.length c, .slice B ys.length d] w (NPost (val xs * val ys) w) := by
  obtain ⟨w1, hmk, hb1, ho1, hs1⟩ := make_nat w (xs.length + ys.length) (by omega)
  have hcast : ((xs.length + ys.length : Nat) : Int) = (xs.length : Int) + (ys.length : Int) := by omega
  rw [hcast] at hmk
  have HB1 := Lib.hid hb1
  have HO1 := Lib.hid ho1
  have HAlt := Lib.hid hA.out.lt
  have HBlt := Lib.hid hB.out.lt
  clear hb1 ho1 hs1 hcast
  generalize hg : w.heap.size = g at HB1 hmk HAlt HBlt
  have HG : Hid (w.heap.size ≤ g) := by show _ ≤ _; omega
  clear hg
  have HStart : Hid (MCar w1 w1 g (xs.length + ys.length) (List.replicate (xs.length + ys.length) 0) 0 0 (val (xs.take 0) * val ys) ys.length) :=
    ⟨HB1.out, .zeros _, by simp, BB_pos, by rw [val_zeros]; simp [val], fun k _ => val_zero_of (val_zeros _) k, Only.refl _ _⟩
  go_enter Tryd.func77, Tryd.ntmps77
  go_wp2_with fail
  clear hmk HB1
  go_loopw [22] (fun iv wr => ∃ (i : Nat) (zs : List Nat), i ≤ xs.length ∧ iv = .int .i64 (i : Int) ∧ MCar w1 wr g (xs.length + ys.length) zs 0 0 (val (xs.take i) * val ys) (i + ys.length)) (fun iv _ => xs.length - (intOf iv).toNat)
  case atStart => exact ⟨0, _, Nat.zero_le _, rfl, by rw [Nat.zero_add]; exact HStart.out⟩
  case round =>
    obtain ⟨i, zs, hi, rfl, hR⟩ := hrel
    have HR := Lib.hid hR
    clear hR HStart
    by_cases hlt : i < xs.length
    · obtain ⟨b, o, rfl, hc⟩ := (hA.out.read.only HO1.out) i hlt
      have hbg : b ≠ g := by have := HAlt.out (by omega) _ rfl; simp only at this; omega
      have c1 := HR.out.only.cell hc (by simpa using hbg)
      have hi' : (i : Int) < (xs.length : Int) := by omega
      have HV := Lib.hid (hA.out.limb.get i)
      have HT := Lib.hid (val_take_succ xs i hlt)
      generalize xs[i]?.getD 0 = v at c1 HV HT
      clear hc
      go_wp2_with fail
      have HStart2 : Hid (MCar w1 wr g (xs.length + ys.length) zs (i + 0) 0 (val (xs.take i) * val ys + BB ^ i * (v * val (ys.take 0))) (i + ys.length)) := by
        have h := HR.out
        exact ⟨h.blk, h.limb, h.len, BB_pos, by have := h.val_; simp [val] at this ⊢; exact this, h.high, h.only⟩
      clear HR
      go_loopw [8, 29] (fun cv jv wq => ∃ (j cy : Nat) (zq : List Nat), j ≤ ys.length ∧ jv = .int .i64 (j : Int) ∧ cv = .int .u64 (cy : Int) ∧ MCar w1 wq g (xs.length + ys.length) zq (i + j) cy (val (xs.take i) * val ys + BB ^ i * (v * val (ys.take j))) (i + ys.length)) (fun _ jv _ => ys.length - (intOf jv).toNat)
      case atStart => exact ⟨0, 0, zs, Nat.zero_le _, rfl, rfl, HStart2.out⟩
      case round =>
        obtain ⟨j, cy, zq, hj, rfl, rfl, hR⟩ := hrel
        have HR := Lib.hid hR
        clear hR HStart2
        by_cases hjt : j < ys.length
        · obtain ⟨b', o', rfl, hc2⟩ := (hB.out.read.only HO1.out) j hjt
          have hbg' : b' ≠ g := by have := HBlt.out (by omega) _ rfl; simp only at this; omega
          have c2 := HR.out.only.cell hc2 (by simpa using hbg')
          have hj' : (j : Int) < (ys.length : Int) := by omega
          have c3 := HR.out.blk.cell (i + j)
          rw [limbV_get _ _ (by rw [HR.out.len]; omega)] at c3
          have f3 := HR.out.blk.frozen (i + j)
          have HY := Lib.hid (hB.out.limb.get j)
          obtain ⟨lo1, q1, hi1, lo2, q2, hi2, hms⟩ := mstep HV.out (hB.out.limb.get j) (HR.out.limb.get (i + j)) HR.out.cylt
          have HS := Lib.hid (HR.out.step (by omega) (by omega) hms (T' := val (xs.take i) * val ys + BB ^ i * (v * val (ys.take (j + 1)))) (by
            rw [val_take_succ ys j hjt, Nat.mul_add, Nat.mul_add, Nat.pow_add]
            rw [show BB ^ i * (v * (BB ^ j * (ys[j]?.getD 0))) = BB ^ i * BB ^ j * (v * (ys[j]?.getD 0)) by rw [Nat.mul_left_comm v, Nat.mul_assoc]]
            omega))
          have hz := HR.out.limb.get (i + j)
          have ha1 : ∀ wx, (callFunc 98 #[.int .u64 ((mLo v (ys[j]?.getD 0) : Nat) : Int), .int .u64 ((zq[i + j]?.getD 0 : Nat) : Int), .int .u64 0]).run Tryd.prog wx = .ok (.value (.tuple #[.int .u64 (lo1 : Int), .int .u64 (q1 : Int)])) wx := fun wx => by
            rw [hms.a1, hms.a2]
            exact add64_run _ _ 0 (mLo_lt _ _) hz (by omega) wx
          have ha2 : ∀ wx, (callFunc 98 #[.int .u64 (lo1 : Int), .int .u64 (cy : Int), .int .u64 0]).run Tryd.prog wx = .ok (.value (.tuple #[.int .u64 (lo2 : Int), .int .u64 (q2 : Int)])) wx := fun wx => by
            rw [hms.a4, hms.a5]
            exact add64_run _ _ 0 (by rw [hms.a1]; exact aLo_lt _ _ _) HR.out.cylt (by omega) wx
          have hw1 := u64_add hms.a3.symm hms.lt1
          have hw2 := u64_add hms.a6.symm hms.lt
          generalize zq[i + j]?.getD 0 = z at c3 ha1 HS hms hz
          generalize ys[j]?.getD 0 = y at c2 ha1 HS HY hms hw1
          clear hc2 hms hz
          go_wp2_with fail
          refine (mul64_any v y HV.out HY.out _).mono ?_
          rintro e w' ⟨rfl, rfl⟩
          go_wp2_with fail
          go_roundw
          case rel => exact ⟨j + 1, _, _, by omega, by go_num, rfl, HS.out⟩
          case measure => simp [intOf]; omega
        · have hnl : ¬ (j : Int) < (ys.length : Int) := by omega
          have e : j = ys.length := by omega
          have HR2 : Hid (MCar w1 wr g (xs.length + ys.length) zq (i + ys.length) cy (val (xs.take (i + 1)) * val ys) (i + ys.length)) := by
            have h := HR.out
            rw [e, val_take_all] at h
            rw [HT.out, Nat.add_mul, Nat.mul_assoc]
            exact h
          have HS := Lib.hid (HR2.out.close (by omega))
          have f3 := HR2.out.blk.frozen (i + ys.length)
          have c3 := HR2.out.blk.cell (i + ys.length)
          rw [limbV_get _ _ (by rw [HR2.out.len]; omega)] at c3
          generalize zq[i + ys.length]?.getD 0 = zl at c3
          clear HR e HR2 hjt
          go_wp2_with fail
          go_roundw
          case rel => exact ⟨i + 1, _, by omega, by go_num, by rw [show i + 1 + ys.length = i + ys.length + 1 by omega]; exact HS.out⟩
          case measure => simp [intOf]; omega
    · have hnl : ¬ (i : Int) < (xs.length : Int) := by omega
      have e : i = xs.length := by omega
      have HV : Hid (val zs = val xs * val ys) := by
        have h := HR.out.val_
        rw [e, val_take_all, Nat.mul_zero] at h
        exact h
      have HLen := Lib.hid HR.out.len
      clear e hlt
      go_wp2_with fail
      (with_reducible refine (trim_row g _ _ zs wr HR.out.blk HR.out.limb HLen.out.symm (Nat.le_refl _) (by omega)).mono ?_)
      rintro e w4 ⟨rfl, rfl⟩
      go_wp2_with fail
      go_ret
      have hr := res_of_blk (w0 := w) HR.out.blk HR.out.limb HG.out (by have := HLen.out; omega)
      rw [HLen.out] at hr
      exact ⟨_, rfl, HV.out ▸ hr, HO1.out.trans HR.out.only (fun k hk => .inr (by simp at hk; rw [hk]; exact HG.out))⟩
end Go.Proofs.YtphjcphcgnjogaaDoor
