/-
  nat: a row less a multiple of another (take), and that row added again (giveBack).
-/
import Derived.Test.YtigpnopeacicpaaDoorTaGNatB
import Derived.Test.YtigpnopeacicpaaDoorTaGVal
import Derived.Laws.Bits64b
import Derived.StillTailTactics
namespace Go.Proofs.YtigpnopeacicpaaDoor
open Go.RowKit

end Go.Proofs.YtigpnopeacicpaaDoor
/-
  math/bits' Div64.
-/
namespace Go.Proofs.YtigpnopeacicpaaDoor
open Go.RowKit

end Go.Proofs.YtigpnopeacicpaaDoor
/-
  nat.estimate: a guess of a digit that is not too small.
-/
namespace Go.Proofs.YtigpnopeacicpaaDoor
open Go.RowKit

end Go.Proofs.YtigpnopeacicpaaDoor
/-
  nat.left and nat.right: times and by powers of two.
-/
namespace Go.Proofs.YtigpnopeacicpaaDoor
open Go.RowKit

/-- Where a row stands that is being shifted up. -/
structure LCar (w wr : World) (g s r L : Nat) (xs : List Nat) (k : Nat) (zs : List Nat) : Prop where
  blk : Blk wr g 90 (limbV zs)
  limb : Limb zs
  len : zs.length = L
  val_ : val zs = BB ^ s * (val (xs.take k) * 2 ^ r)
  only : Only [g] w wr

/-- One step of it. -/
structure LStep (w wr : World) (g s r L : Nat) (xs : List Nat) (k : Nat) (zs : List Nat) (z v z2 a lo hi : Nat) : Prop where
  c1 : wr.cell? ⟨g, k + s, none⟩ = some (.int .u64 (z : Int))
  e1 : IntKind.u64.wrap ((v : Int) * 2 ^ r) = (a : Int)
  e2 : bits .or .u64 (z : Int) (a : Int) = (lo : Int)
  e3 : (v : Int) / 2 ^ (64 - r) = (hi : Int)
  c2 : (wr.setCell ⟨g, k + s, none⟩ (.int .u64 (lo : Int))).cell? ⟨g, k + s + 1, none⟩ = some (.int .u64 (z2 : Int))
  next : LCar w ((wr.setCell ⟨g, k + s, none⟩ (.int .u64 (lo : Int))).setCell ⟨g, k + s + 1, none⟩ (.int .u64 (hi : Int))) g s r L xs (k + 1) ((zs.set (k + s) lo).set (k + s + 1) hi)

theorem LCar.step {w wr : World} {g s r L : Nat} {xs : List Nat} {k : Nat} {zs : List Nat} (h : LCar w wr g s r L xs k zs) (hr : r < 64) (hx : Limb xs) (hk : k < xs.length) (hL : L = xs.length + s + 1) :
    ∃ z z2 a lo hi, LStep w wr g s r L xs k zs z (xs[k]?.getD 0) z2 a lo hi := by
  have hlen := h.len
  have hv := hx.get k
  have hp : 0 < 2 ^ r := Nat.pow_pos (by omega)
  have hsp : (2 : Nat) ^ r * 2 ^ (64 - r) = BB := by rw [← Nat.pow_add, BB_pow]; congr 1; omega
  have hb := val_lt (hx.take k)
  rw [List.length_take, Nat.min_eq_left (by omega)] at hb
  have hb2 : val zs < BB ^ (k + s) * 2 ^ r := by
    rw [h.val_, Nat.pow_add, Nat.mul_comm (BB ^ k), Nat.mul_assoc]
    exact Nat.mul_lt_mul_of_pos_left (Nat.mul_lt_mul_of_pos_right hb hp) (BB_pow_pos s)
  have hz : zs[k + s]?.getD 0 < 2 ^ r := by
    have h1 := val_ge_get (zs := zs) (k + s)
    exact Nat.lt_of_mul_lt_mul_left (Nat.lt_of_le_of_lt h1 hb2)
  have hz2 : zs[k + s + 1]?.getD 0 = 0 := by
    refine val_high (m := k + s + 1) ?_ _ (Nat.le_refl _)
    refine Nat.lt_of_lt_of_le hb2 ?_
    rw [Nat.pow_succ]
    refine Nat.mul_le_mul_left _ ?_
    rw [← hsp]
    exact Nat.le_mul_of_pos_right _ (Nat.pow_pos (by omega))
  have hzl := h.limb.get (k + s)
  have ha : ∃ a, (xs[k]?.getD 0 * 2 ^ r) % BB = a ∧ 2 ^ r ∣ a ∧ a < BB := ⟨_, rfl, by
    rw [Nat.dvd_mod_iff ⟨2 ^ (64 - r), hsp.symm⟩]
    exact Nat.dvd_mul_left _ _, Nat.mod_lt _ BB_pos⟩
  obtain ⟨a, ha1, ⟨m, ha2⟩, ha3⟩ := ha
  have hdv : xs[k]?.getD 0 * 2 ^ r / BB = xs[k]?.getD 0 / 2 ^ (64 - r) := by
    rw [← hsp, Nat.mul_comm (2 ^ r), Nat.mul_div_mul_right _ _ hp]
  have hsum : zs[k + s]?.getD 0 + a + BB * (xs[k]?.getD 0 / 2 ^ (64 - r)) = zs[k + s]?.getD 0 + xs[k]?.getD 0 * 2 ^ r + 0 := by
    have := Nat.mod_add_div (xs[k]?.getD 0 * 2 ^ r) BB
    rw [ha1, hdv] at this
    omega
  have hlo : zs[k + s]?.getD 0 + a < BB := by
    have h1 : m < 2 ^ (64 - r) := by
      rw [ha2, ← hsp] at ha3
      exact Nat.lt_of_mul_lt_mul_left ha3
    have h2 : 2 ^ r * (m + 1) ≤ 2 ^ r * 2 ^ (64 - r) := Nat.mul_le_mul_left _ h1
    rw [hsp, Nat.mul_add] at h2
    omega
  have hhi : xs[k]?.getD 0 / 2 ^ (64 - r) < BB := Nat.lt_of_le_of_lt (Nat.div_le_self _ _) hv
  have hi1 : k + s < zs.length := by omega
  have hi2 : k + s + 1 < zs.length := by omega
  have hc1 := h.blk.cell (k + s)
  rw [limbV_get _ _ hi1] at hc1
  have hB1 := h.blk.set_ (k + s) (.int .u64 ((zs[k + s]?.getD 0 + a : Nat) : Int))
  rw [limbV_set] at hB1
  have hc2 := hB1.cell (k + s + 1)
  rw [limbV_get _ _ (by rw [List.length_set]; exact hi2)] at hc2
  have hB2 := hB1.set_ (k + s + 1) (.int .u64 ((xs[k]?.getD 0 / 2 ^ (64 - r) : Nat) : Int))
  rw [limbV_set] at hB2
  refine ⟨zs[k + s]?.getD 0, _, a, zs[k + s]?.getD 0 + a, xs[k]?.getD 0 / 2 ^ (64 - r), hc1, ?_, ?_, by simp, hc2, ?_⟩
  · rw [show ((xs[k]?.getD 0 : Nat) : Int) * 2 ^ r = ((xs[k]?.getD 0 * 2 ^ r : Nat) : Int) by simp, IntKind.wrap_u64, ← ha1, BB_val]
    omega
  · have hor : zs[k + s]?.getD 0 + a = zs[k + s]?.getD 0 ||| a := by rw [Nat.add_comm (zs[k + s]?.getD 0), ha2, Nat.two_pow_add_eq_or_of_lt hz, Nat.or_comm]
    rw [hor]
    exact bits_or_u64_nat _ _ (by rw [← BB_val]; exact hzl) (by rw [← BB_val]; exact ha3)
  · refine ⟨hB2, (h.limb.set _ _ hlo).set _ _ hhi, by simp [hlen], ?_, (h.only.trans ((Only.refl [g] wr).setCell (.inl (by simp)) _) (by simp)).trans ((Only.refl [g] _).setCell (.inl (by simp)) _) (by simp)⟩
    have h1 := add_step hi1 hsum
    have h2 := val_set (zs.set (k + s) (zs[k + s]?.getD 0 + a)) (k + s + 1) (xs[k]?.getD 0 / 2 ^ (64 - r)) (by rw [List.length_set]; exact hi2)
    rw [set_get_ne (by omega), hz2, Nat.mul_zero, Nat.add_zero] at h2
    rw [h2, h1, h.val_, val_take_succ xs k hk, Nat.mul_zero, Nat.add_zero, Nat.add_mul, Nat.mul_add]
    rw [Nat.pow_add, Nat.mul_comm (BB ^ k), Nat.mul_assoc (BB ^ s), Nat.mul_assoc (BB ^ k)]

set_option maxHeartbeats 1600000 in
theorem left_any (A : Option Addr) (c n s r : Nat) (xs : List Nat) (w : World) (hA : Hid (Arg w A xs)) (hn : Hid (n = s * 64 + r)) (hr : Hid (r < 64)) (hl : (xs.length : Int) + s + 1 ≤ 4000000) :
    Calls Tryd.prog 109 #[.slice A xs.length c, .int .i64 (n : Int)] w (NPost (val xs * 2 ^ n) w) := by
  have hq2 : (n : Int) / 64 = (s : Int) := by have := hn.out; have := hr.out; omega
  have hq4 : (n : Int) % 64 = (r : Int) := by have := hn.out; have := hr.out; omega
  have hq1 : (n : Int).tdiv 64 = (s : Int) := by rw [Int.tdiv_eq_ediv_of_nonneg (by omega)]; exact hq2
  have hq3 : (n : Int).tmod 64 = (r : Int) := by rw [Int.tmod_eq_emod_of_nonneg (by omega)]; exact hq4
  by_cases h0 : xs.length = 0
  · have h0i : (xs.length : Int) = 0 := by omega
    go_enter Tryd.func109, Tryd.ntmps109
    go_wp2_with fail
    go_ret
    refine ⟨_, rfl, ?_, Only.refl _ _⟩
    rw [List.length_eq_zero_iff.1 h0, val_nil, Nat.zero_mul]
    exact res_nil _ _
  · have h0i : ((xs.length : Int) == 0) = false := by rw [beq_eq_false_iff_ne]; omega
    have h0j : ¬ (xs.length : Int) = 0 := by omega
    obtain ⟨w1, hmk, hb1, ho1, hs1⟩ := make_nat w (xs.length + s + 1) (by omega)
    rw [show ((xs.length + s + 1 : Nat) : Int) = (xs.length : Int) + (s : Int) + 1 by push_cast; rfl] at hmk
    have HStart : Hid (LCar w1 w1 w.heap.size s r (xs.length + s + 1) xs 0 (List.replicate (xs.length + s + 1) 0)) := ⟨hb1, Limb.zeros _, by simp, by rw [val_zeros]; simp [val], Only.refl _ _⟩
    have HO1 := Lib.hid ho1
    have HAlt := Lib.hid hA.out.lt
    clear hb1 ho1 hs1 h0
    generalize hg : w.heap.size = g at HStart hmk HAlt
    have HG : Hid (w.heap.size ≤ g) := by show _ ≤ _; omega
    clear hg
    go_enter Tryd.func109, Tryd.ntmps109
    go_wp2_with fail
    go_loopw [26] (fun kv wr => ∃ (k : Nat) (zs : List Nat), k ≤ xs.length ∧ kv = .int .i64 (k : Int) ∧ LCar w1 wr g s r (xs.length + s + 1) xs k zs) (fun kv _ => xs.length - (intOf kv).toNat)
    case atStart => exact ⟨0, _, Nat.zero_le _, rfl, HStart.out⟩
    case round =>
      obtain ⟨k, zs, hk, rfl, hR⟩ := hrel
      have HR := Lib.hid hR
      clear hR HStart
      by_cases hlt : k < xs.length
      · obtain ⟨b, o, rfl, hc⟩ := (hA.out.read.only HO1.out) k hlt
        have hbg : b ≠ g := by have := HAlt.out (by omega) _ rfl; simp only at this; omega
        have c1 := HR.out.only.cell hc (by simpa using hbg)
        have f2 := HR.out.blk.frozen (k + s)
        have f3 := HR.out.blk.frozen (k + s + 1)
        obtain ⟨z, z2, a, lo, hi, hst⟩ := HR.out.step hr.out hA.out.limb hlt rfl
        have HS := Lib.hid hst.next
        obtain ⟨d1, d2, d3, d4, d5, -⟩ := hst
        generalize xs[k]?.getD 0 = v at c1 d2 d4
        have hk' : (k : Int) < (xs.length : Int) := by omega
        have hi' : (k : Int) + (s : Int) < (xs.length : Int) + (s : Int) + 1 := by omega
        have hi2 : (k : Int) + (s : Int) + 1 < (xs.length : Int) + (s : Int) + 1 := by omega
        have hsr : IntKind.u64.wrap (64 - (r : Int)) = ((64 - r : Nat) : Int) := by
          have := hr.out
          rw [show (64 : Int) - (r : Int) = ((64 - r : Nat) : Int) by omega]
          exact u64_wrap (by rw [BB_val]; omega)
        clear hc hlt
        go_wp2_with fail
        go_roundw
        case rel => exact ⟨k + 1, _, by omega, by go_num, HS.out⟩
        case measure => simp [intOf]; omega
      · have hnl : ¬ (k : Int) < (xs.length : Int) := by omega
        have e : k = xs.length := by omega
        have HV : Hid (val zs = val xs * 2 ^ n) := by
          have h := HR.out.val_
          rw [e, val_take_all, Nat.mul_left_comm] at h
          show _ = _
          rw [h, hn.out, Nat.pow_add, Nat.mul_comm s, Nat.pow_mul, ← BB_pow]
        have HLen := Lib.hid HR.out.len
        clear e hlt
        go_wp2_with fail
        (with_reducible refine (trim_row g _ _ zs wr HR.out.blk HR.out.limb HLen.out.symm (Nat.le_refl _) (by omega)).mono ?_)
        rintro e w4 ⟨rfl, rfl⟩
        go_wp2_with fail
        go_ret
        have hr := res_of_blk (w0 := w) HR.out.blk HR.out.limb HG.out (by have := HLen.out; omega)
        rw [HLen.out] at hr
        exact ⟨_, rfl, HV.out ▸ hr, HO1.out.trans HR.out.only (fun k hk => .inr (by simp at hk; rw [hk]; exact HG.out))⟩

/-- Where a row stands that is being shifted down. -/
structure RCar (w wr : World) (g s r L : Nat) (xs : List Nat) (k : Nat) (zs : List Nat) : Prop where
  blk : Blk wr g 90 (limbV zs)
  limb : Limb zs
  len : zs.length = L
  val_ : ∀ j, j < k → zs[j]?.getD 0 = shrAt r (xs.drop s) j
  only : Only [g] w wr
theorem RCar.set {w wr : World} {g s r L : Nat} {xs : List Nat} {k : Nat} {zs : List Nat} (h : RCar w wr g s r L xs k zs) (_ : k < L) (v : Nat) (hv : v < BB) :
    RCar w (wr.setCell ⟨g, k, none⟩ (.int .u64 (v : Int))) g s r L xs k (zs.set k v) := by
  refine ⟨?_, h.limb.set _ _ hv, by rw [List.length_set, h.len], fun j hj => ?_, h.only.trans ((Only.refl [g] wr).setCell (.inl (by simp)) _) (by simp)⟩
  · rw [← limbV_set]
    exact h.blk.set_ k _
  · rw [set_get_ne (by omega)]
    exact h.val_ j hj
theorem RCar.next {w wr : World} {g s r L : Nat} {xs : List Nat} {k : Nat} {zs : List Nat} (h : RCar w wr g s r L xs k zs) (hk : zs[k]?.getD 0 = shrAt r (xs.drop s) k) : RCar w wr g s r L xs (k + 1) zs := by
  refine ⟨h.blk, h.limb, h.len, fun j hj => ?_, h.only⟩
  by_cases e : j = k
  · rw [e]; exact hk
  · exact h.val_ j (by omega)
theorem RCar.drew {w wr : World} {g s r L : Nat} {xs : List Nat} {k : Nat} {zs : List Nat} (h : RCar w wr g s r L xs k zs) : RCar w wr.drew g s r L xs k zs := ⟨h.blk.drew, h.limb, h.len, h.val_, h.only.drew⟩
theorem shr_or {x y r : Nat} (hr : r < 64) (hx : x < BB) (_ : y < BB) : IntKind.u64.wrap ((y : Int) * 2 ^ (64 - r)) = ((y % 2 ^ r * 2 ^ (64 - r) : Nat) : Int) ∧ bits .or .u64 ((x / 2 ^ r : Nat) : Int) ((y % 2 ^ r * 2 ^ (64 - r) : Nat) : Int) = ((x / 2 ^ r + y % 2 ^ r * 2 ^ (64 - r) : Nat) : Int) ∧ x / 2 ^ r + y % 2 ^ r * 2 ^ (64 - r) < BB := by
  have hp : 0 < 2 ^ r := Nat.pow_pos (by omega)
  have hsp : (2 : Nat) ^ r * 2 ^ (64 - r) = BB := by rw [← Nat.pow_add, BB_pow]; congr 1; omega
  have hx2 : x / 2 ^ r < 2 ^ (64 - r) := by
    rw [Nat.div_lt_iff_lt_mul hp, Nat.mul_comm, hsp]
    exact hx
  have hm := Nat.mod_lt y hp
  have hm2 : (y % 2 ^ r + 1) * 2 ^ (64 - r) ≤ 2 ^ r * 2 ^ (64 - r) := Nat.mul_le_mul_right _ hm
  rw [hsp, Nat.add_mul, Nat.one_mul] at hm2
  have hy2 : y * 2 ^ (64 - r) % BB = y % 2 ^ r * 2 ^ (64 - r) := by rw [← hsp, Nat.mul_mod_mul_right]
  refine ⟨?_, ?_, by omega⟩
  · rw [show (y : Int) * 2 ^ (64 - r) = ((y * 2 ^ (64 - r) : Nat) : Int) by simp, IntKind.wrap_u64, ← hy2, BB_val]
    omega
  · have hor : x / 2 ^ r + y % 2 ^ r * 2 ^ (64 - r) = x / 2 ^ r ||| y % 2 ^ r * 2 ^ (64 - r) := by rw [Nat.add_comm, Nat.mul_comm (y % 2 ^ r), Nat.two_pow_add_eq_or_of_lt hx2, Nat.or_comm]
    have hyb : y % 2 ^ r * 2 ^ (64 - r) < BB := Nat.lt_of_lt_of_le (Nat.lt_add_of_pos_right (Nat.pow_pos (by omega))) hm2
    rw [hor]
    rw [BB_val] at hx hyb
    exact bits_or_u64_nat _ _ (Nat.lt_of_le_of_lt (Nat.div_le_self _ _) hx) hyb

set_option maxHeartbeats 1600000 in
set_option maxRecDepth 100000 in
theorem right_any (A : Option Addr) (c n s r : Nat) (xs : List Nat) (w : World) (hA : Hid (Arg w A xs)) (hn : Hid (n = s * 64 + r)) (hr : Hid (r < 64)) (hsb : (s : Int) ≤ 1000000000) :
    Calls Tryd.prog 113 #[.slice A xs.length c, .int .i64 (n : Int)] w (NPost (val xs / 2 ^ n) w) := by
  have hq2 : (n : Int) / 64 = (s : Int) := by have := hn.out; have := hr.out; omega
  have hq4 : (n : Int) % 64 = (r : Int) := by have := hn.out; have := hr.out; omega
  have hq1 : (n : Int).tdiv 64 = (s : Int) := by rw [Int.tdiv_eq_ediv_of_nonneg (by omega)]; exact hq2
  have hq3 : (n : Int).tmod 64 = (r : Int) := by rw [Int.tmod_eq_emod_of_nonneg (by omega)]; exact hq4
  have HN1 : Hid (n / 64 = s) := by have := hn.out; have := hr.out; show _ = _; omega
  have HN2 : Hid (n % 64 = r) := by have := hn.out; have := hr.out; show _ = _; omega
  by_cases h0 : xs.length ≤ s
  · have h0i : (xs.length : Int) ≤ (s : Int) := by omega
    go_enter Tryd.func113, Tryd.ntmps113
    go_wp2_with fail
    go_ret
    refine ⟨_, rfl, ?_, Only.refl _ _⟩
    rw [shr_small xs hA.out.limb n (by rw [HN1.out]; exact h0)]
    exact res_nil _ _
  · have h0i : ¬ (xs.length : Int) ≤ (s : Int) := by omega
    have hlen := hA.out.len
    obtain ⟨L, hL⟩ : ∃ L, xs.length = s + L := ⟨xs.length - s, by omega⟩
    obtain ⟨w1, hmk, hb1, ho1, hs1⟩ := make_nat w L (by omega)
    have hLi : (xs.length : Int) - (s : Int) = (L : Int) := by omega
    have HStart : Hid (RCar w1 w1 w.heap.size s r L xs 0 (List.replicate L 0)) := ⟨hb1, Limb.zeros _, by simp, by omega, Only.refl _ _⟩
    have HO1 := Lib.hid ho1
    have HAlt := Lib.hid hA.out.lt
    have hLl : (L : Int) ≤ 4000000 := by omega
    have HL := Lib.hid hL
    clear hb1 ho1 hs1 h0 hL
    generalize hg : w.heap.size = g at HStart hmk HAlt
    have HG : Hid (w.heap.size ≤ g) := by show _ ≤ _; omega
    clear hg
    go_enter Tryd.func113, Tryd.ntmps113
    go_wp2_with fail
    go_loopw [25] (fun kv wr => ∃ (k : Nat) (zs : List Nat), k ≤ L ∧ kv = .int .i64 (k : Int) ∧ RCar w1 wr g s r L xs k zs) (fun kv _ => L - (intOf kv).toNat)
    case atStart => exact ⟨0, _, Nat.zero_le _, rfl, HStart.out⟩
    case round =>
      obtain ⟨k, zs, hk, rfl, hR⟩ := hrel
      have HR := Lib.hid hR
      clear hR HStart
      by_cases hlt : k < L
      · obtain ⟨b, o, rfl, hc⟩ := (hA.out.read.only HO1.out) (k + s) (by have := HL.out; omega)
        have hbg : b ≠ g := by have := HAlt.out (by have := HL.out; omega) _ rfl; simp only at this; omega
        have c1 := HR.out.only.cell hc (by simpa using hbg)
        have f2 := HR.out.blk.frozen k
        have c2 := HR.out.blk.cell k
        rw [limbV_get _ _ (by rw [HR.out.len]; exact hlt)] at c2
        have HX := Lib.hid (hA.out.limb.get (k + s))
        have hd1 : (((xs[k + s]?.getD 0 : Nat)) : Int) / 2 ^ r = ((xs[k + s]?.getD 0 / 2 ^ r : Nat) : Int) := by simp
        have HS := Lib.hid (HR.out.set hlt (xs[k + s]?.getD 0 / 2 ^ r) (Nat.lt_of_le_of_lt (Nat.div_le_self _ _) HX.out))
        have c3 := HS.out.blk.cell k
        rw [limbV_get _ _ (by rw [HS.out.len]; exact hlt), set_get_eq (by rw [HR.out.len]; exact hlt)] at c3
        have f3 := HS.out.blk.frozen k
        have hk' : (k : Int) < (L : Int) := by omega
        have hi' : (k : Int) + (s : Int) < (xs.length : Int) := by have := HL.out; omega
        have HAt : Hid (shrAt r (xs.drop s) k = xs[k + s]?.getD 0 / 2 ^ r + (xs[k + s + 1]?.getD 0 % 2 ^ r) * 2 ^ (64 - r)) := by
          show _ = _
          unfold shrAt
          rw [List.getElem?_drop, List.getElem?_drop, show s + k = k + s by omega, show s + (k + 1) = k + s + 1 by omega]
        by_cases hl2 : k + s + 1 < xs.length
        · obtain ⟨b', o', e', hc2⟩ := (hA.out.read.only HO1.out) (k + s + 1) hl2
          injection e' with e'
          injection e' with e1 e2 _
          subst e1 e2
          have c4 := HS.out.only.cell hc2 (by simpa using hbg)
          obtain ⟨t1, t2, t3⟩ := shr_or (r := r) hr.out HX.out (hA.out.limb.get (k + s + 1))
          have HS2 : ∀ wd, RCar w1 wd g s r L xs k (zs.set k (xs[k + s]?.getD 0 / 2 ^ r)) → RCar w1 (wd.setCell ⟨g, k, none⟩ (.int .u64 ((xs[k + s]?.getD 0 / 2 ^ r + xs[k + s + 1]?.getD 0 % 2 ^ r * 2 ^ (64 - r) : Nat) : Int))) g s r L xs (k + 1) ((zs.set k (xs[k + s]?.getD 0 / 2 ^ r)).set k (xs[k + s]?.getD 0 / 2 ^ r + xs[k + s + 1]?.getD 0 % 2 ^ r * 2 ^ (64 - r))) :=
            fun wd hd => (hd.set hlt _ t3).next (by rw [set_get_eq (by rw [hd.len]; exact hlt), HAt.out])
          have HS2 := Lib.hid HS2
          have hi2 : (k : Int) + (s : Int) + 1 < (xs.length : Int) := by omega
          have hsr : IntKind.u64.wrap (64 - (r : Int)) = ((64 - r : Nat) : Int) := by
            have := hr.out
            rw [show (64 : Int) - (r : Int) = ((64 - r : Nat) : Int) by omega]
            exact u64_wrap (by rw [BB_val]; omega)
          clear hc hc2 hlt t3 HAt hl2
          generalize hx1 : xs[k + s]?.getD 0 / 2 ^ r = xr at *
          generalize xs[k + s]?.getD 0 = x at *
          generalize xs[k + s + 1]?.getD 0 = y at *
          generalize y % 2 ^ r * 2 ^ (64 - r) = yr at *
          generalize xr + yr = zr at *
          go_wp2_with fail
          have hkS : (k : Int) + (s : Int) ≤ 4000000 := by omega
          obtain ⟨e1, he1⟩ : ∃ e1, k + s = e1 := ⟨_, rfl⟩
          obtain ⟨e2, he2⟩ : ∃ e2, e1 + 1 = e2 := ⟨_, rfl⟩
          have hm1 : IntKind.i64.wrap ((k : Int) + (s : Int)) = (e1 : Int) := by rw [IntKind.wrap_i64]; omega
          have hm2 : IntKind.i64.wrap ((e1 : Int) + 1) = (e2 : Int) := by rw [IntKind.wrap_i64]; omega
          have hm3 : (e2 : Int) < (xs.length : Int) := by omega
          rw [show k + s + 1 = e2 by omega] at c4
          generalize wr.setCell ⟨g, k, none⟩ (.int .u64 (xr : Int)) = wx at HS c3 c4 f3 ⊢
          go_still_tail 16, (by kernel_rfl)
          change wpList _ _ _ _ _ wx.drew
          have HSd := Lib.hid HS.out.drew
          generalize wx.drew = wd at HSd ⊢
          have f4 := HSd.out.blk.frozen k
          have c5 := HSd.out.blk.cell k
          rw [limbV_get _ _ (by rw [HSd.out.len]; omega)] at c5
          go_wp2_with fail
          go_roundw
          case rel => exact ⟨k + 1, _, by omega, by go_num, HS2.out _ HSd.out⟩
          case measure => simp [intOf]; omega
        · have hnl2 : ¬ (k : Int) + (s : Int) + 1 < (xs.length : Int) := by omega
          have HS2 := Lib.hid (HS.out.next (by
            rw [set_get_eq (by rw [HR.out.len]; exact hlt), HAt.out, List.getElem?_eq_none (l := xs) (i := k + s + 1) (by omega)]
            simp))
          clear hc hlt HAt hl2
          generalize hx1 : xs[k + s]?.getD 0 / 2 ^ r = xr at *
          generalize xs[k + s]?.getD 0 = x at *
          go_wp2_with fail
          go_roundw
          case rel => exact ⟨k + 1, _, by omega, by go_num, HS2.out⟩
          case measure => simp [intOf]; omega
      · have hnl : ¬ (k : Int) < (L : Int) := by omega
        have e : k = L := by omega
        have HV : Hid (val zs = val xs / 2 ^ n) := by
          have h := HR.out.val_
          have hz := eq_shrL (r := r) (xs := xs.drop s) (zs := zs) (by rw [HR.out.len, List.length_drop, HL.out]; omega) (fun j hj => h j (by rw [List.length_drop, HL.out] at hj; omega))
          show _ = _
          rw [hz, ← HN1.out, ← HN2.out, shr_val xs hA.out.limb n (by rw [HN1.out, HL.out]; omega)]
        have HLen := Lib.hid HR.out.len
        clear e hlt
        go_wp2_with fail
        (with_reducible refine (trim_row g _ _ zs wr HR.out.blk HR.out.limb HLen.out.symm (Nat.le_refl _) (by omega)).mono ?_)
        rintro e w4 ⟨rfl, rfl⟩
        go_wp2_with fail
        go_ret
        have hr := res_of_blk (w0 := w) HR.out.blk HR.out.limb HG.out (by have := HLen.out; omega)
        rw [HLen.out] at hr
        exact ⟨_, rfl, HV.out ▸ hr, HO1.out.trans HR.out.only (fun k hk => .inr (by simp at hk; rw [hk]; exact HG.out))⟩
end Go.Proofs.YtigpnopeacicpaaDoor
/-
  nat.short: a row divided by a limb in place.
-/
namespace Go.Proofs.YtigpnopeacicpaaDoor
open Go.RowKit

end Go.Proofs.YtigpnopeacicpaaDoor
