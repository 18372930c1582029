/-
  nat: a row less a multiple of another (take), and that row added again (giveBack).
-/
import Derived.Test.YtfelokgmoiblgaaDoorGNatB
import Derived.Test.YtfelokgmoiblgaaDoorGVal
import Derived.Laws.Bits64b
import Derived.StillTailTactics
namespace Go.Proofs.YtfelokgmoiblgaaDoor
open Go.RowKit

/-- A sum under way that leaves the limbs above as they are. -/
structure GCar (w wr : World) (g : Nat) (zs zs' : List Nat) (i cy T : Nat) : Prop extends ACar w wr g zs zs' i cy T where
  high : ∀ j, i ≤ j → zs'[j]?.getD 0 = zs[j]?.getD 0

theorem GCar.step {w wr : World} {g : Nat} {zs zs' : List Nat} {i cy T v : Nat} (h : GCar w wr g zs zs' i cy T) (hi : i < zs.length) (hv : v < BB) {T' : Nat} (hT : T' = T + BB ^ i * v) :
    GCar w (wr.setCell ⟨g, i, none⟩ (.int .u64 ((aLo (zs'[i]?.getD 0) v cy : Nat) : Int))) g zs (zs'.set i (aLo (zs'[i]?.getD 0) v cy)) (i + 1) (aHi (zs'[i]?.getD 0) v cy) T' :=
  ⟨h.toACar.step hi hv hT, fun j hj => by rw [set_get_ne (by omega)]; exact h.high j (by omega)⟩

/-- What giveBack leaves. -/
def GivePost (g : Nat) (us : List Nat) (i T : Nat) (w : World) (e : Ending) (w' : World) : Prop :=
  ∃ cy us', e = .returned (.int .u64 ((cy : Nat) : Int)) ∧ GCar w w' g us us' i cy T

/-- Where a row stands from which a multiple is being taken. -/
structure TCar (w wr : World) (g : Nat) (us zs : List Nat) (i cy T U : Nat) : Prop where
  blk : Blk wr g 54 (limbV zs)
  limb : Limb zs
  len : zs.length = us.length
  cylt : cy < BB
  val_ : val zs + U = T + BB ^ i * cy
  only : Only [g] w wr
  high : ∀ j, i ≤ j → zs[j]?.getD 0 = us[j]?.getD 0

theorem TCar.step {w wr : World} {g : Nat} {us zs : List Nat} {i cy T U x df cy' : Nat} (h : TCar w wr g us zs i cy T U) (hi : i < us.length) (hd : df < BB) (hc : cy' < BB) (hs : df + x + cy = zs[i]?.getD 0 + BB * cy') {U' : Nat} (hU : U' = U + BB ^ i * x) :
    TCar w (wr.setCell ⟨g, i, none⟩ (.int .u64 (df : Int))) g us (zs.set i df) (i + 1) cy' T U' := by
  refine ⟨?_, h.limb.set _ _ hd, by rw [List.length_set, h.len], hc, ?_, h.only.trans ((Only.refl [g] wr).setCell (.inl (by simp)) _) (by simp), fun j hj => by rw [set_get_ne (by omega)]; exact h.high j (by omega)⟩
  · rw [← limbV_set]
    exact h.blk.set_ i _
  · have h1 := sub_step (by rw [h.len]; exact hi) hs
    have h2 := h.val_
    rw [hU]
    omega

/-- One step of it. -/
structure TStep (v d z cy lo1 c1 hi1 df c2 cy' : Nat) : Prop where
  a1 : lo1 = aLo (mLo v d) cy 0
  a2 : c1 = aHi (mLo v d) cy 0
  a3 : hi1 = mHi v d + c1
  a4 : df = sLo z lo1 0
  a5 : c2 = sHi z lo1 0
  a6 : cy' = hi1 + c2
  law : df + v * d + cy = z + BB * cy'
  lt : cy' < BB
  lt1 : hi1 < BB
  dl : df < BB

theorem tstep {v d z cy : Nat} (hv : v < BB) (hd : d < BB) (hz : z < BB) (hc : cy < BB) : ∃ lo1 c1 hi1 df c2 cy', TStep v d z cy lo1 c1 hi1 df c2 cy' := by
  have h1 := mul64_law v d
  have h2 := add64_law (mLo v d) cy 0
  have h3 := sub64_law hz (aLo_lt (mLo v d) cy 0) (Nat.zero_le 1)
  have h6 := mHi_le hv hd
  have h4 := aHi_le (mLo_lt v d) hc (Nat.zero_le 1)
  have hdl := sLo_lt z (aLo (mLo v d) cy 0) 0
  have hlaw : sLo z (aLo (mLo v d) cy 0) 0 + v * d + cy = z + BB * (mHi v d + aHi (mLo v d) cy 0 + sHi z (aLo (mLo v d) cy 0) 0) := by
    rw [Nat.mul_add, Nat.mul_add]
    omega
  have hlt : mHi v d + aHi (mLo v d) cy 0 + sHi z (aLo (mLo v d) cy 0) 0 < BB := by
    apply Nat.lt_of_not_le
    intro h
    have h7 := Nat.mul_le_mul_left BB h
    have h8 : v * d ≤ (BB - 1) * (BB - 1) := Nat.mul_le_mul (by omega) (by omega)
    obtain ⟨k, hk⟩ : ∃ k, BB = k + 1 := ⟨BB - 1, by have := BB_pos; omega⟩
    have h9 : BB * BB = k * k + 2 * k + 1 := by rw [hk, Nat.add_mul, Nat.mul_add]; omega
    rw [hk, Nat.add_sub_cancel] at h8
    omega
  exact ⟨_, _, _, _, _, _, rfl, rfl, rfl, rfl, rfl, rfl, hlaw, hlt, by omega, hdl⟩

/-- What take leaves. -/
def TakePost (g : Nat) (us : List Nat) (i T U : Nat) (w : World) (e : Ending) (w' : World) : Prop :=
  ∃ bo us', e = .returned (.int .u64 ((bo : Nat) : Int)) ∧ bo ≤ 1 ∧ TCar w w' g us us' i bo T U

end Go.Proofs.YtfelokgmoiblgaaDoor
/-
  math/bits' Div64.
-/
namespace Go.Proofs.YtfelokgmoiblgaaDoor
open Go.RowKit

theorem u64_dec {a : Nat} (h : 0 < a) (ha : a < BB) : IntKind.u64.wrap ((a : Int) - 1) = ((a - 1 : Nat) : Int) := by
  rw [show ((a : Int) - 1) = ((a - 1 : Nat) : Int) by omega]
  exact u64_wrap (by omega)

theorem u64_mul {a b c : Nat} (h : a * b = c) (hc : c < BB) : IntKind.u64.wrap ((a : Int) * (b : Int)) = (c : Int) := by
  rw [← Int.natCast_mul, h]
  exact u64_wrap hc

theorem half_prod {a b : Nat} (ha : a < 4294967296) (hb : b < 4294967296) : a * b < BB := by
  have h : a * b ≤ 4294967295 * 4294967295 := Nat.mul_le_mul (by omega) (by omega)
  rw [BB_val]
  omega

theorem d64_join {a b Q : Nat} (h : a * 4294967296 + b = Q) (hQ : Q < BB) : IntKind.u64.wrap (IntKind.u64.wrap ((a : Int) * 4294967296) + (b : Int)) = (Q : Int) := by
  rw [BB_val] at hQ
  rw [IntKind.wrap_u64, IntKind.wrap_u64]
  omega

end Go.Proofs.YtfelokgmoiblgaaDoor
/-
  nat.estimate: a guess of a digit that is not too small.
-/
namespace Go.Proofs.YtfelokgmoiblgaaDoor
open Go.RowKit

/-- Where the guess stands. -/
structure ECar (u2 u1 u0 v1 v0 d r o : Nat) : Prop where
  ok : EstOk u2 u1 u0 v1 v0 d
  rl : r < BB
  eq : o = 0 → d * v1 + r = u2 * BB + u1

theorem ECar.lower {u2 u1 u0 v1 v0 d r : Nat} (h : ECar u2 u1 u0 v1 v0 d r 0) (hl : r * BB + u0 < d * v0) : 0 < d ∧ ECar u2 u1 u0 v1 v0 (d - 1) (aLo r v1 0) (aHi r v1 0) := by
  obtain ⟨h1, h2, h3⟩ := est_lower h.ok.1 (h.eq rfl) hl
  refine ⟨h1, h2, aLo_lt _ _ _, fun h4 => ?_⟩
  have h5 := add64_law r v1 0
  rw [h4] at h5
  omega

theorem ECar.start {u2 u1 u0 v1 v0 : Nat} (hv : 0 < v1) (h2 : u2 < v1) (h1 : u1 < BB) (h0 : u0 < BB) (hv1 : v1 < BB) : ECar u2 u1 u0 v1 v0 ((u2 * BB + u1) / v1) ((u2 * BB + u1) % v1) 0 := by
  refine ⟨est_start hv h2 h1 h0, Nat.lt_trans (Nat.mod_lt _ hv) hv1, fun _ => ?_⟩
  have := Nat.div_add_mod (u2 * BB + u1) v1
  rw [Nat.mul_comm] at this
  exact this

theorem ECar.top {u2 u1 u0 v1 v0 : Nat} (h2 : u2 = v1) : ECar u2 u1 u0 v1 v0 (BB - 1) (aLo u1 v1 0) (aHi u1 v1 0) := by
  refine ⟨⟨by have := BB_pos; omega, .inl rfl⟩, aLo_lt _ _ _, fun h4 => ?_⟩
  have h5 := add64_law u1 v1 0
  rw [h4] at h5
  obtain ⟨k, hk⟩ : ∃ k, BB = k + 1 := ⟨BB - 1, by have := BB_pos; omega⟩
  rw [h2, hk, Nat.add_sub_cancel, Nat.mul_add, Nat.mul_comm k]
  omega

/-- The test of a guess. -/
theorem est_test {r u0 d v0 : Nat} (hu : u0 < BB) : (mHi d v0 < r ∨ (mHi d v0 = r ∧ mLo d v0 ≤ u0)) ∨ (r * BB + u0 < d * v0 ∧ ¬ mHi d v0 < r ∧ (mHi d v0 = r → ¬ mLo d v0 ≤ u0)) := by
  have h1 := mul64_law d v0
  have h2 := mLo_lt d v0
  generalize mHi d v0 = p at *
  generalize mLo d v0 = q at *
  by_cases c1 : p < r
  · exact .inl (.inl c1)
  · by_cases c2 : p = r
    · by_cases c3 : q ≤ u0
      · exact .inl (.inr ⟨c2, c3⟩)
      · refine .inr ⟨?_, c1, fun _ => c3⟩
        rw [← h1, c2, Nat.mul_comm BB]
        omega
    · refine .inr ⟨?_, c1, fun h => absurd h c2⟩
      have h3 : (r + 1) * BB ≤ p * BB := Nat.mul_le_mul_right _ (by omega)
      rw [Nat.add_mul, Nat.one_mul] at h3
      rw [← h1, Nat.mul_comm BB]
      omega

end Go.Proofs.YtfelokgmoiblgaaDoor
/-
  nat.left and nat.right: times and by powers of two.
-/
namespace Go.Proofs.YtfelokgmoiblgaaDoor
open Go.RowKit

/-- Where a row stands that is being shifted up. -/
structure LCar (w wr : World) (g s r L : Nat) (xs : List Nat) (k : Nat) (zs : List Nat) : Prop where
  blk : Blk wr g 54 (limbV zs)
  limb : Limb zs
  len : zs.length = L
  val_ : val zs = BB ^ s * (val (xs.take k) * 2 ^ r)
  only : Only [g] w wr

/-- One step of it. -/
structure LStep (w wr : World) (g s r L : Nat) (xs : List Nat) (k : Nat) (zs : List Nat) (z v z2 a lo hi : Nat) : Prop where
  c1 : wr.cell? ⟨g, k + s, none⟩ = some (.int .u64 (z : Int))
  e1 : IntKind.u64.wrap ((v : Int) * 2 ^ r) = (a : Int)
  e2 : bits .or .u64 (z : Int) (a : Int) = (lo : Int)
  e3 : (v : Int) / 2 ^ (64 - r) = (hi : Int)
  c2 : (wr.setCell ⟨g, k + s, none⟩ (.int .u64 (lo : Int))).cell? ⟨g, k + s + 1, none⟩ = some (.int .u64 (z2 : Int))
  next : LCar w ((wr.setCell ⟨g, k + s, none⟩ (.int .u64 (lo : Int))).setCell ⟨g, k + s + 1, none⟩ (.int .u64 (hi : Int))) g s r L xs (k + 1) ((zs.set (k + s) lo).set (k + s + 1) hi)

theorem LCar.step {w wr : World} {g s r L : Nat} {xs : List Nat} {k : Nat} {zs : List Nat} (h : LCar w wr g s r L xs k zs) (hr : r < 64) (hx : Limb xs) (hk : k < xs.length) (hL : L = xs.length + s + 1) :
    ∃ z z2 a lo hi, LStep w wr g s r L xs k zs z (xs[k]?.getD 0) z2 a lo hi := by
  have hlen := h.len
  have hv := hx.get k
  have hp : 0 < 2 ^ r := Nat.pow_pos (by omega)
  have hsp : (2 : Nat) ^ r * 2 ^ (64 - r) = BB := by rw [← Nat.pow_add, BB_pow]; congr 1; omega
  have hb := val_lt (hx.take k)
  rw [List.length_take, Nat.min_eq_left (by omega)] at hb
  have hb2 : val zs < BB ^ (k + s) * 2 ^ r := by
    rw [h.val_, Nat.pow_add, Nat.mul_comm (BB ^ k), Nat.mul_assoc]
    exact Nat.mul_lt_mul_of_pos_left (Nat.mul_lt_mul_of_pos_right hb hp) (BB_pow_pos s)
  have hz : zs[k + s]?.getD 0 < 2 ^ r := by
    have h1 := val_ge_get (zs := zs) (k + s)
    exact Nat.lt_of_mul_lt_mul_left (Nat.lt_of_le_of_lt h1 hb2)
  have hz2 : zs[k + s + 1]?.getD 0 = 0 := by
    refine val_high (m := k + s + 1) ?_ _ (Nat.le_refl _)
    refine Nat.lt_of_lt_of_le hb2 ?_
    rw [Nat.pow_succ]
    refine Nat.mul_le_mul_left _ ?_
    rw [← hsp]
    exact Nat.le_mul_of_pos_right _ (Nat.pow_pos (by omega))
  have hzl := h.limb.get (k + s)
  have ha : ∃ a, (xs[k]?.getD 0 * 2 ^ r) % BB = a ∧ 2 ^ r ∣ a ∧ a < BB := ⟨_, rfl, by
    rw [Nat.dvd_mod_iff ⟨2 ^ (64 - r), hsp.symm⟩]
    exact Nat.dvd_mul_left _ _, Nat.mod_lt _ BB_pos⟩
  obtain ⟨a, ha1, ⟨m, ha2⟩, ha3⟩ := ha
  have hdv : xs[k]?.getD 0 * 2 ^ r / BB = xs[k]?.getD 0 / 2 ^ (64 - r) := by
    rw [← hsp, Nat.mul_comm (2 ^ r), Nat.mul_div_mul_right _ _ hp]
  have hsum : zs[k + s]?.getD 0 + a + BB * (xs[k]?.getD 0 / 2 ^ (64 - r)) = zs[k + s]?.getD 0 + xs[k]?.getD 0 * 2 ^ r + 0 := by
    have := Nat.mod_add_div (xs[k]?.getD 0 * 2 ^ r) BB
    rw [ha1, hdv] at this
    omega
  have hlo : zs[k + s]?.getD 0 + a < BB := by
    have h1 : m < 2 ^ (64 - r) := by
      rw [ha2, ← hsp] at ha3
      exact Nat.lt_of_mul_lt_mul_left ha3
    have h2 : 2 ^ r * (m + 1) ≤ 2 ^ r * 2 ^ (64 - r) := Nat.mul_le_mul_left _ h1
    rw [hsp, Nat.mul_add] at h2
    omega
  have hhi : xs[k]?.getD 0 / 2 ^ (64 - r) < BB := Nat.lt_of_le_of_lt (Nat.div_le_self _ _) hv
  have hi1 : k + s < zs.length := by omega
  have hi2 : k + s + 1 < zs.length := by omega
  have hc1 := h.blk.cell (k + s)
  rw [limbV_get _ _ hi1] at hc1
  have hB1 := h.blk.set_ (k + s) (.int .u64 ((zs[k + s]?.getD 0 + a : Nat) : Int))
  rw [limbV_set] at hB1
  have hc2 := hB1.cell (k + s + 1)
  rw [limbV_get _ _ (by rw [List.length_set]; exact hi2)] at hc2
  have hB2 := hB1.set_ (k + s + 1) (.int .u64 ((xs[k]?.getD 0 / 2 ^ (64 - r) : Nat) : Int))
  rw [limbV_set] at hB2
  refine ⟨zs[k + s]?.getD 0, _, a, zs[k + s]?.getD 0 + a, xs[k]?.getD 0 / 2 ^ (64 - r), hc1, ?_, ?_, by simp, hc2, ?_⟩
  · rw [show ((xs[k]?.getD 0 : Nat) : Int) * 2 ^ r = ((xs[k]?.getD 0 * 2 ^ r : Nat) : Int) by simp, IntKind.wrap_u64, ← ha1, BB_val]
    omega
  · have hor : zs[k + s]?.getD 0 + a = zs[k + s]?.getD 0 ||| a := by rw [Nat.add_comm (zs[k + s]?.getD 0), ha2, Nat.two_pow_add_eq_or_of_lt hz, Nat.or_comm]
    rw [hor]
    exact bits_or_u64_nat _ _ (by rw [← BB_val]; exact hzl) (by rw [← BB_val]; exact ha3)
  · refine ⟨hB2, (h.limb.set _ _ hlo).set _ _ hhi, by simp [hlen], ?_, (h.only.trans ((Only.refl [g] wr).setCell (.inl (by simp)) _) (by simp)).trans ((Only.refl [g] _).setCell (.inl (by simp)) _) (by simp)⟩
    have h1 := add_step hi1 hsum
    have h2 := val_set (zs.set (k + s) (zs[k + s]?.getD 0 + a)) (k + s + 1) (xs[k]?.getD 0 / 2 ^ (64 - r)) (by rw [List.length_set]; exact hi2)
    rw [set_get_ne (by omega), hz2, Nat.mul_zero, Nat.add_zero] at h2
    rw [h2, h1, h.val_, val_take_succ xs k hk, Nat.mul_zero, Nat.add_zero, Nat.add_mul, Nat.mul_add]
    rw [Nat.pow_add, Nat.mul_comm (BB ^ k), Nat.mul_assoc (BB ^ s), Nat.mul_assoc (BB ^ k)]

/-- Where a row stands that is being shifted down. -/
structure RCar (w wr : World) (g s r L : Nat) (xs : List Nat) (k : Nat) (zs : List Nat) : Prop where
  blk : Blk wr g 54 (limbV zs)
  limb : Limb zs
  len : zs.length = L
  val_ : ∀ j, j < k → zs[j]?.getD 0 = shrAt r (xs.drop s) j
  only : Only [g] w wr

theorem RCar.set {w wr : World} {g s r L : Nat} {xs : List Nat} {k : Nat} {zs : List Nat} (h : RCar w wr g s r L xs k zs) (_ : k < L) (v : Nat) (hv : v < BB) :
    RCar w (wr.setCell ⟨g, k, none⟩ (.int .u64 (v : Int))) g s r L xs k (zs.set k v) := by
  refine ⟨?_, h.limb.set _ _ hv, by rw [List.length_set, h.len], fun j hj => ?_, h.only.trans ((Only.refl [g] wr).setCell (.inl (by simp)) _) (by simp)⟩
  · rw [← limbV_set]
    exact h.blk.set_ k _
  · rw [set_get_ne (by omega)]
    exact h.val_ j hj

theorem RCar.next {w wr : World} {g s r L : Nat} {xs : List Nat} {k : Nat} {zs : List Nat} (h : RCar w wr g s r L xs k zs) (hk : zs[k]?.getD 0 = shrAt r (xs.drop s) k) : RCar w wr g s r L xs (k + 1) zs := by
  refine ⟨h.blk, h.limb, h.len, fun j hj => ?_, h.only⟩
  by_cases e : j = k
  · rw [e]; exact hk
  · exact h.val_ j (by omega)

theorem RCar.drew {w wr : World} {g s r L : Nat} {xs : List Nat} {k : Nat} {zs : List Nat} (h : RCar w wr g s r L xs k zs) : RCar w wr.drew g s r L xs k zs := ⟨h.blk.drew, h.limb, h.len, h.val_, h.only.drew⟩

theorem shr_or {x y r : Nat} (hr : r < 64) (hx : x < BB) (_ : y < BB) : IntKind.u64.wrap ((y : Int) * 2 ^ (64 - r)) = ((y % 2 ^ r * 2 ^ (64 - r) : Nat) : Int) ∧ bits .or .u64 ((x / 2 ^ r : Nat) : Int) ((y % 2 ^ r * 2 ^ (64 - r) : Nat) : Int) = ((x / 2 ^ r + y % 2 ^ r * 2 ^ (64 - r) : Nat) : Int) ∧ x / 2 ^ r + y % 2 ^ r * 2 ^ (64 - r) < BB := by
  have hp : 0 < 2 ^ r := Nat.pow_pos (by omega)
  have hsp : (2 : Nat) ^ r * 2 ^ (64 - r) = BB := by rw [← Nat.pow_add, BB_pow]; congr 1; omega
  have hx2 : x / 2 ^ r < 2 ^ (64 - r) := by
    rw [Nat.div_lt_iff_lt_mul hp, Nat.mul_comm, hsp]
    exact hx
  have hm := Nat.mod_lt y hp
  have hm2 : (y % 2 ^ r + 1) * 2 ^ (64 - r) ≤ 2 ^ r * 2 ^ (64 - r) := Nat.mul_le_mul_right _ hm
  rw [hsp, Nat.add_mul, Nat.one_mul] at hm2
  have hy2 : y * 2 ^ (64 - r) % BB = y % 2 ^ r * 2 ^ (64 - r) := by rw [← hsp, Nat.mul_mod_mul_right]
  refine ⟨?_, ?_, by omega⟩
  · rw [show (y : Int) * 2 ^ (64 - r) = ((y * 2 ^ (64 - r) : Nat) : Int) by simp, IntKind.wrap_u64, ← hy2, BB_val]
    omega
  · have hor : x / 2 ^ r + y % 2 ^ r * 2 ^ (64 - r) = x / 2 ^ r ||| y % 2 ^ r * 2 ^ (64 - r) := by rw [Nat.add_comm, Nat.mul_comm (y % 2 ^ r), Nat.two_pow_add_eq_or_of_lt hx2, Nat.or_comm]
    have hyb : y % 2 ^ r * 2 ^ (64 - r) < BB := Nat.lt_of_lt_of_le (Nat.lt_add_of_pos_right (Nat.pow_pos (by omega))) hm2
    rw [hor]
    rw [BB_val] at hx hyb
    exact bits_or_u64_nat _ _ (Nat.lt_of_le_of_lt (Nat.div_le_self _ _) hx) hyb

end Go.Proofs.YtfelokgmoiblgaaDoor
/-
  nat.short: a row divided by a limb in place.
-/
namespace Go.Proofs.YtfelokgmoiblgaaDoor
open Go.RowKit

theorem val_drop_cons (xs : List Nat) (j : Nat) (h : j < xs.length) : val (xs.drop j) = xs[j]?.getD 0 + BB * val (xs.drop (j + 1)) := by
  rw [List.drop_eq_getElem_cons h]
  simp [val, h]

/-- Where a row stands that is being divided by a limb. -/
structure SCar (w wr : World) (g y : Nat) (tl : List Value) (xs zs : List Nat) (k rest : Nat) : Prop where
  blk : Blk wr g 54 (limbV zs ++ tl)
  limb : Limb zs
  len : zs.length = xs.length
  low : ∀ j, j < k → zs[j]?.getD 0 = xs[j]?.getD 0
  val_ : val (xs.drop k) = y * val (zs.drop k) + rest
  lt : rest < y
  only : Only [g] w wr

theorem SCar.step {w wr : World} {g y : Nat} {tl : List Value} {xs zs : List Nat} {j rest : Nat} (h : SCar w wr g y tl xs zs (j + 1) rest) (hj : j < xs.length) (hx : Limb xs) {wd : World} (ho : Only [] wr wd) :
    SCar w (wd.setCell ⟨g, j, none⟩ (.int .u64 (((rest * BB + xs[j]?.getD 0) / y : Nat) : Int))) g y tl xs (zs.set j ((rest * BB + xs[j]?.getD 0) / y)) j ((rest * BB + xs[j]?.getD 0) % y) := by
  have hy : 0 < y := by have := h.lt; omega
  have hq : (rest * BB + xs[j]?.getD 0) / y < BB := by
    rw [Nat.div_lt_iff_lt_mul hy]
    have h1 := Nat.mul_le_mul_right BB (show rest + 1 ≤ y from h.lt)
    rw [Nat.succ_mul, Nat.mul_comm y] at h1
    have := hx.get j
    omega
  have hlen := h.len
  refine ⟨?_, h.limb.set _ _ hq, by rw [List.length_set, hlen], fun i hi => ?_, ?_, Nat.mod_lt _ hy, ((h.only.trans ho (by simp)).trans ((Only.refl [g] wd).setCell (.inl (by simp)) _) (by simp))⟩
  · rw [← limbV_set, ← List.set_append_left _ _ (by rw [limbV_len]; omega)]
    exact (h.blk.only ho (by simp)).set_ j _
  · rw [set_get_ne (by omega)]
    exact h.low i (by omega)
  · have h1 := Nat.div_add_mod (rest * BB + xs[j]?.getD 0) y
    rw [val_drop_cons xs j hj, val_drop_cons _ j (by rw [List.length_set]; omega), set_get_eq (by omega), List.drop_set_of_lt (by omega), h.val_]
    rw [Nat.mul_add, Nat.mul_add, Nat.mul_left_comm BB y, Nat.mul_comm BB rest]
    omega

/-- What short leaves. -/
def ShortTl (g y : Nat) (tl : List Value) (xs : List Nat) (w : World) (e : Ending) (w' : World) : Prop :=
  ∃ zs, e = .returned (.int .u64 ((val xs % y : Nat) : Int)) ∧ Blk w' g 54 (limbV zs ++ tl) ∧ Limb zs ∧ zs.length = xs.length ∧ val zs = val xs / y ∧ Only [g] w w'

def ShortPost (g y : Nat) (xs : List Nat) (w : World) (e : Ending) (w' : World) : Prop :=
  ∃ zs, e = .returned (.int .u64 ((val xs % y : Nat) : Int)) ∧ Blk w' g 54 (limbV zs) ∧ Limb zs ∧ zs.length = xs.length ∧ val zs = val xs / y ∧ Only [g] w w'

end Go.Proofs.YtfelokgmoiblgaaDoor
