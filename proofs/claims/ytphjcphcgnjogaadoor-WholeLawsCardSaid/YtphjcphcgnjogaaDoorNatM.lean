/-
  nat.Bits, limbRoot.
-/
import Derived.Test.YtphjcphcgnjogaaDoorNatL
namespace Go.Proofs.YtphjcphcgnjogaaDoor
open Go.RowKit

/-- The bits of a number. -/
def bitsN (n : Nat) : Nat := if n = 0 then 0 else Nat.log2 n + 1
theorem bitsN_top {xs : List Nat} {k : Nat} (hx : Limb xs) (hl : xs.length = k + 1) (ht : xs[k]?.getD 0 ≠ 0) : bitsN (val xs) = 64 * k + Lib.bitLen (xs[k]?.getD 0) := by
  have c1 := val_take_succ xs k (by omega)
  rw [show xs.take (k + 1) = xs by rw [← hl, List.take_length]] at c1
  have c0 := val_lt (hx.take k)
  rw [List.length_take, Nat.min_eq_left (by omega)] at c0
  have htb := hx.get k
  rw [BB_pow] at htb
  obtain ⟨b1, b2, b3⟩ := Lib.bitLenAux_bounds 64 (xs[k]?.getD 0) htb ht
  have e : Lib.bitLenAux 64 (xs[k]?.getD 0) = Lib.bitLen (xs[k]?.getD 0) := rfl
  rw [e] at b1 b2 b3
  generalize Lib.bitLen (xs[k]?.getD 0) = L at *
  generalize xs[k]?.getD 0 = t at *
  have hp : BB ^ k = 2 ^ (64 * k) := by rw [BB_pow, ← Nat.pow_mul]
  have h1 : 2 ^ (64 * k + (L - 1)) ≤ val xs := by
    rw [Nat.pow_add, ← hp]
    have := Nat.mul_le_mul_left (BB ^ k) b2
    omega
  have h2 : val xs < 2 ^ (64 * k + L) := by
    rw [Nat.pow_add, ← hp]
    have h3 : BB ^ k * (t + 1) ≤ BB ^ k * 2 ^ L := Nat.mul_le_mul_left _ b3
    rw [Nat.mul_add] at h3
    omega
  have h0 : val xs ≠ 0 := by
    have : 0 < 2 ^ (64 * k + (L - 1)) := Nat.pow_pos (by omega)
    omega
  unfold bitsN
  rw [if_neg h0]
  have h4 : Nat.log2 (val xs) = 64 * k + (L - 1) := (Nat.log2_eq_iff h0).2 ⟨h1, by rw [show 64 * k + (L - 1) + 1 = 64 * k + L by omega]; exact h2⟩
  omega
theorem len64_any (x : Nat) (hx : x < BB) (w : World) : Calls Tryd.prog 61 #[.int .u64 (x : Int)] w fun e w' => e = .returned (.int .i64 (Lib.bitLen x : Int)) ∧ w = w' := by
  rw [BB_val] at hx
  refine (Tryd.bits_Len64 (x : Int) w (by omega) (by omega)).mono ?_
  rintro e w' ⟨he, hw⟩
  rw [Int.toNat_natCast] at he
  exact ⟨he, hw.symm⟩
set_option maxRecDepth 100000 in
theorem nbits_any (A : Option Addr) (c : Nat) (xs : List Nat) (w : World) (hA : Hid (Arg w A xs)) (hc : xs.length ≤ c) :
    Calls Tryd.prog 40 #[.slice A xs.length c] w fun e w' => e = .returned (.int .i64 (bitsN (val xs) : Int)) ∧ w = w' := by
  have HA := Lib.hid hA.out.trim
  by_cases h0 : val xs = 0
  · have hz : (limbsOf (val xs)).length = 0 := by rw [h0, limbsOf_zero]; rfl
    have HZ : Hid (bitsN (val xs) = 0) := by show _ = _; rw [h0]; rfl
    clear h0
    go_enter Tryd.func40, Tryd.ntmps40
    go_wp2_with fail
    (with_reducible refine (trim_any A c xs _ hA hc).mono ?_)
    rintro e w' ⟨rfl, rfl⟩
    go_wp2_with fail
    go_ret
    exact ⟨by rw [HZ.out]; rfl, rfl⟩
  · obtain ⟨k, hk⟩ : ∃ k, (limbsOf (val xs)).length = k + 1 := ⟨(limbsOf (val xs)).length - 1, by have : (limbsOf (val xs)).length ≠ 0 := fun h => h0 (limbsOf_len0.1 h); omega⟩
    obtain ⟨q, hq⟩ : ∃ q, (limbsOf (val xs)).length = q := ⟨_, rfl⟩
    have ht : (limbsOf (val xs))[k]?.getD 0 ≠ 0 := by
      have h := canon_limbsOf (val xs) (by omega)
      rw [List.getElem?_eq_getElem (by omega)]
      simpa [hk] using h
    have hb := bitsN_top (limb_limbsOf (val xs)) hk ht
    rw [val_limbsOf] at hb
    obtain ⟨b, o, rfl, ct⟩ := HA.out.read k (by omega)
    have HT := Lib.hid ((limb_limbsOf (val xs)).get k)
    have HBt := Lib.hid hb
    generalize (limbsOf (val xs))[k]?.getD 0 = t at *
    have hqz : ((q : Int) == 0) = false := by rw [beq_eq_false_iff_ne]; omega
    have hqk : (q : Int) - 1 = (k : Int) := by omega
    have hkq : (k : Int) < (q : Int) := by omega
    have hql : (q : Int) ≤ 4000000 := by have := HA.out.len; omega
    have HBl : Hid (Lib.bitLen t ≤ 64) := Lib.bitLen_le t 64 (by omega) (by rw [← BB_pow]; exact HT.out)
    clear h0 ht hb hk
    go_enter Tryd.func40, Tryd.ntmps40
    go_wp2_with fail
    (with_reducible refine (trim_any (some ⟨b, o, none⟩) c xs _ hA hc).mono ?_)
    rintro e w' ⟨rfl, rfl⟩
    rw [hq]
    go_wp2_with fail
    refine (len64_any t HT.out _).mono ?_
    rintro e w' ⟨rfl, rfl⟩
    have hbl : (Lib.bitLen t : Int) ≤ 64 := by have := HBl.out; omega
    go_wp2_with fail
    go_ret
    refine ⟨?_, rfl⟩
    rw [HBt.out, show ((64 * k + Lib.bitLen t : Nat) : Int) = 64 * (k : Int) + (Lib.bitLen t : Int) by push_cast; rfl]
    rfl

/-- The first guess for a limb. -/
theorem limb_guess {x : Nat} (h0 : x ≠ 0) (hx : x < BB) : ∃ h, (Lib.bitLen x + 1) / 2 = h ∧ h ≤ 32 ∧ rootN x ≤ 2 ^ h := by
  have hxb := hx
  rw [BB_pow] at hxb
  obtain ⟨b1, b2, b3⟩ := Lib.bitLenAux_bounds 64 x hxb h0
  have e : Lib.bitLenAux 64 x = Lib.bitLen x := rfl
  rw [e] at b1 b2 b3
  have hl : Lib.bitLen x ≤ 64 := Lib.bitLen_le x 64 (by omega) hxb
  generalize Lib.bitLen x = L at *
  refine ⟨_, rfl, by omega, ?_⟩
  have h1 := (rootN_is x).1
  apply Nat.le_of_lt
  apply Nat.lt_of_not_le
  intro h
  have h2 := Nat.mul_le_mul h h
  rw [← Nat.pow_add] at h2
  have h3 : 2 ^ L ≤ 2 ^ ((L + 1) / 2 + (L + 1) / 2) := Nat.pow_le_pow_right (by omega) (by omega)
  omega
theorem shl_one {h : Nat} (hh : h ≤ 32) : IntKind.u64.wrap ((1 : Int) * 2 ^ h) = ((2 ^ h : Nat) : Int) ∧ IntKind.u64.wrap ((2 : Int) ^ h) = ((2 ^ h : Nat) : Int) ∧ 2 ^ h ≤ 4294967296 := by
  have h1 : 2 ^ h ≤ 2 ^ 32 := Nat.pow_le_pow_right (by omega) hh
  have h2 : (2 : Int) ^ h = ((2 ^ h : Nat) : Int) := by simp
  have h3 : IntKind.u64.wrap ((2 ^ h : Nat) : Int) = ((2 ^ h : Nat) : Int) := u64_wrap (by rw [BB_val]; omega)
  rw [h2, Int.one_mul]
  exact ⟨h3, h3, h1⟩

set_option maxHeartbeats 800000 in
set_option maxRecDepth 100000 in
theorem limbRoot_any (A : Option Addr) (c : Nat) (xs : List Nat) (w : World) (hA : Hid (Arg w A xs)) (hl : (xs.length : Int) ≤ 1) (hcan : Hid (Canon xs)) :
    Calls Tryd.prog 95 #[.slice A xs.length c] w fun e w' => e = .returned (.int .u64 (rootN (val xs) : Int)) ∧ Only [] w w' := by
  rcases xs with _ | ⟨x, rest⟩
  · have hz : (([] : List Nat).length : Int) = 0 := rfl
    go_enter Tryd.func95, Tryd.ntmps95
    go_wp2_with fail
    go_ret
    exact ⟨by rw [val_nil, rootN]; rfl, Only.refl _ _⟩
  · have hr : rest = [] := by
      simp at hl
      exact List.length_eq_zero_iff.1 (by omega)
    subst hr
    have hv : Hid (val [x] = x) := by show _ = _; simp [val]
    have HX : Hid (x < BB) := hA.out.limb x (by simp)
    have hx0 : x ≠ 0 := hcan.out (by simp)
    have HX0 := Lib.hid hx0
    obtain ⟨b, o, rfl, ct⟩ := hA.out.read 0 (by simp)
    have ct : w.cell? ⟨b, o, none⟩ = some (.int .u64 (x : Int)) := ct
    obtain ⟨h, hg1, hg2, hg3⟩ := limb_guess hx0 HX.out
    obtain ⟨s1, s2, s3⟩ := shl_one hg2
    have HSr : Hid (rootN x ≤ 2 ^ h ∧ 2 ^ h ≤ 4294967296) := ⟨hg3, s3⟩
    have HIs := Lib.hid (rootN_is x)
    have HPos : Hid (0 < rootN x) := by
      have := HIs.out.2
      apply Nat.pos_of_ne_zero
      intro h0
      rw [h0] at this
      omega
    have hn1 : (([x] : List Nat).length : Int) = 1 := rfl
    have hq1 : ((Lib.bitLen x : Int) + 1) / 2 = (h : Int) := by omega
    have hq2 : ((Lib.bitLen x : Int) + 1).tdiv 2 = (h : Int) := by rw [Int.tdiv_eq_ediv_of_nonneg (by omega)]; exact hq1
    have hbl : (Lib.bitLen x : Int) ≤ 64 := by
      have := Lib.bitLen_le x 64 (by omega) (by rw [← BB_pow]; exact HX.out)
      omega
    rw [hv.out]
    generalize rootN x = rt at *
    clear hg3 s3 hx0 hg1 hcan
    go_enter Tryd.func95, Tryd.ntmps95
    go_wp2_with fail
    refine (len64_any x HX.out _).mono ?_
    rintro e w' ⟨rfl, rfl⟩
    go_wp2_with fail
    go_loop [3] (fun rv => ∃ r : Nat, rv = .int .u64 (r : Int) ∧ rt ≤ r ∧ r ≤ 4294967296) (fun rv => (intOf rv).toNat)
    case atStart => exact ⟨_, rfl, HSr.out.1, HSr.out.2⟩
    case round =>
      obtain ⟨r, rfl, hr1, hr2⟩ := hrel
      have hrp : 0 < r := Nat.lt_of_lt_of_le HPos.out hr1
      have hri : (1 : Int) ≤ (r : Int) := by omega
      have HDone := Lib.hid (newton_done hrp HIs.out hr1)
      have HStep := Lib.hid (newton_step hrp HIs.out hr1)
      have hqB : x / r < BB := Nat.lt_of_le_of_lt (Nat.div_le_self _ _) HX.out
      obtain ⟨q, hq⟩ : ∃ q, x / r = q := ⟨_, rfl⟩
      rw [hq] at HDone HStep hqB
      have hqd : (x : Int) / (r : Int) = (q : Int) := by rw [← Int.natCast_ediv, hq]
      have hqw : IntKind.u64.wrap (q : Int) = (q : Int) := u64_wrap hqB
      clear hq hrp
      by_cases hle : r ≤ q
      · have hli : (r : Int) ≤ (q : Int) := by omega
        have HE : Hid (r = rt) := HDone.out hle
        clear hle
        go_wp2_with fail
        go_ret
        exact ⟨by rw [← HE.out]; rfl, Only.refl _ _⟩
      · obtain ⟨g1, g2⟩ := HStep.out (by omega)
        obtain ⟨sm, hsm⟩ : ∃ sm, r + q = sm := ⟨_, rfl⟩
        rw [hsm] at g1 g2
        have hs1 : IntKind.u64.wrap ((r : Int) + (q : Int)) = (sm : Int) := u64_add hsm (by rw [BB_val]; omega)
        have hs2 : (sm : Int) / 2 = ((sm / 2 : Nat) : Int) := by omega
        have hs3 : IntKind.u64.wrap ((sm / 2 : Nat) : Int) = ((sm / 2 : Nat) : Int) := u64_wrap (by rw [BB_val]; omega)
        have hli : ¬ (r : Int) ≤ (q : Int) := by omega
        generalize sm / 2 = r2 at *
        have HG : Hid (rt ≤ r2 ∧ r2 < r ∧ r ≤ 4294967296) := ⟨g1, g2, hr2⟩
        clear hle g1 g2 hsm
        go_wp2_with fail
        go_round
        case rel => exact ⟨r2, rfl, HG.out.1, by have := HG.out; omega⟩
        case measure => have := HG.out; simp [intOf]; omega
end Go.Proofs.YtphjcphcgnjogaaDoor
