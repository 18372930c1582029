/-
  nat: a row less a multiple of another (take), and that row added again (giveBack).
-/
import Derived.Test.YtphjcphcgnjogaaDoorNatE
namespace Go.Proofs.YtphjcphcgnjogaaDoor
open Go.RowKit

/-- A sum under way that leaves the limbs above as they are. -/
structure GCar (w wr : World) (g : Nat) (zs zs' : List Nat) (i cy T : Nat) : Prop extends ACar w wr g zs zs' i cy T where
  high : ∀ j, i ≤ j → zs'[j]?.getD 0 = zs[j]?.getD 0
theorem GCar.step {w wr : World} {g : Nat} {zs zs' : List Nat} {i cy T v : Nat} (h : GCar w wr g zs zs' i cy T) (hi : i < zs.length) (hv : v < BB) {T' : Nat} (hT : T' = T + BB ^ i * v) :
    GCar w (wr.setCell ⟨g, i, none⟩ (.int .u64 ((aLo (zs'[i]?.getD 0) v cy : Nat) : Int))) g zs (zs'.set i (aLo (zs'[i]?.getD 0) v cy)) (i + 1) (aHi (zs'[i]?.getD 0) v cy) T' :=
  ⟨h.toACar.step hi hv hT, fun j hj => by rw [set_get_ne (by omega)]; exact h.high j (by omega)⟩
/-- What giveBack leaves. -/
def GivePost (g : Nat) (us : List Nat) (i T : Nat) (w : World) (e : Ending) (w' : World) : Prop :=
  ∃ cy us', e = .returned (.int .u64 ((cy : Nat) : Int)) ∧ GCar w w' g us us' i cy T

set_option maxHeartbeats 1600000 in
theorem giveBack_any (g p c : Nat) (us : List Nat) (A : Option Addr) (d n : Nat) (vs : List Nat) (w : World) (hu : Hid (Blk w g 64 (limbV us))) (hul : Hid (Limb us)) (hA : Hid (Arg w A vs)) (hag : Hid (0 < vs.length → ∀ a, A = some a → a.block ≠ g))
    (hn : vs.length = n) (hfit : p + n < us.length) (hlen : (us.length : Int) ≤ 16000000) :
    Calls Tryd.prog 84 #[.slice (some ⟨g, p, none⟩) (n + 1) c, .slice A n d] w (GivePost g us (p + n + 1) (val us + BB ^ p * val vs) w) := by
  subst hn
  have HStart : Hid (GCar w w g us us (p + 0) 0 (val us + BB ^ p * val (vs.take 0))) := ⟨⟨hu.out, hul.out, rfl, by omega, by simp [val], Only.refl _ _⟩, fun _ _ => rfl⟩
  go_enter Tryd.func84, Tryd.ntmps84
  go_wp2_with fail
  go_loopw [5, 10] (fun cv kv wr => ∃ (k cy : Nat) (zs : List Nat), k ≤ vs.length ∧ kv = .int .i64 (k : Int) ∧ cv = .int .u64 (cy : Int) ∧ GCar w wr g us zs (p + k) cy (val us + BB ^ p * val (vs.take k))) (fun _ kv _ => vs.length - (intOf kv).toNat)
  case atStart => exact ⟨0, 0, us, Nat.zero_le _, rfl, rfl, HStart.out⟩
  case round =>
    obtain ⟨k, cy, zs, hk, rfl, rfl, hR⟩ := hrel
    have HR := Lib.hid hR
    clear hR HStart
    by_cases hlt : k < vs.length
    · obtain ⟨b, o, rfl, hc⟩ := hA.out.read k hlt
      have hbg : b ≠ g := hag.out (by omega) _ rfl
      have c1 := HR.out.only.cell hc (by simpa using hbg)
      have c2 := HR.out.blk.cell (p + k)
      rw [limbV_get _ _ (by rw [HR.out.len]; omega)] at c2
      have f2 := HR.out.blk.frozen (p + k)
      have hvk := hA.out.limb.get k
      have ha := fun wx => add64_run (zs[p + k]?.getD 0) (vs[k]?.getD 0) cy (HR.out.limb.get _) hvk HR.out.cyle wx
      have HS := Lib.hid (HR.out.step (T' := val us + BB ^ p * val (vs.take (k + 1))) (by omega) hvk (by rw [val_take_succ vs k hlt, Nat.mul_add, ← Nat.mul_assoc, ← Nat.pow_add, ← Nat.add_assoc]))
      generalize zs[p + k]?.getD 0 = z at c2 ha HS
      generalize vs[k]?.getD 0 = v at c1 ha HS
      have hk' : (k : Int) < (vs.length : Int) := by omega
      clear hc hvk hlt
      go_wp2_with fail
      go_roundw
      case rel => exact ⟨k + 1, _, _, by omega, by go_num, rfl, HS.out⟩
      case measure => simp [intOf]; omega
    · have hnl : ¬ (k : Int) < (vs.length : Int) := by omega
      have e : k = vs.length := by omega
      have HR2 : Hid (GCar w wr g us zs (p + vs.length) cy (val us + BB ^ p * val vs)) := by
        have := HR.out
        rw [e, val_take_all] at this
        exact this
      have c2 := HR2.out.blk.cell (p + vs.length)
      rw [limbV_get _ _ (by rw [HR2.out.len]; omega)] at c2
      have f2 := HR2.out.blk.frozen (p + vs.length)
      have hcy := HR2.out.cyle
      have ha : ∀ wx, (callFunc 98 #[.int .u64 ((zs[p + vs.length]?.getD 0 : Nat) : Int), .int .u64 0, .int .u64 (cy : Int)]).run Tryd.prog wx = .ok (.value (.tuple #[.int .u64 ((aLo (zs[p + vs.length]?.getD 0) 0 cy : Nat) : Int), .int .u64 ((aHi (zs[p + vs.length]?.getD 0) 0 cy : Nat) : Int)])) wx :=
        fun wx => add64_run (zs[p + vs.length]?.getD 0) 0 cy (HR2.out.limb.get _) BB_pos hcy wx
      have HS := Lib.hid (HR2.out.step (T' := val us + BB ^ p * val vs) (by omega) BB_pos (by omega))
      generalize zs[p + vs.length]?.getD 0 = z at c2 ha HS
      clear e HR hlt hcy
      go_wp2_with fail
      go_ret
      exact ⟨_, _, rfl, HS.out⟩

/-- Where a row stands from which a multiple is being taken. -/
structure TCar (w wr : World) (g : Nat) (us zs : List Nat) (i cy T U : Nat) : Prop where
  blk : Blk wr g 64 (limbV zs)
  limb : Limb zs
  len : zs.length = us.length
  cylt : cy < BB
  val_ : val zs + U = T + BB ^ i * cy
  only : Only [g] w wr
  high : ∀ j, i ≤ j → zs[j]?.getD 0 = us[j]?.getD 0
theorem TCar.step {w wr : World} {g : Nat} {us zs : List Nat} {i cy T U x df cy' : Nat} (h : TCar w wr g us zs i cy T U) (hi : i < us.length) (hd : df < BB) (hc : cy' < BB) (hs : df + x + cy = zs[i]?.getD 0 + BB * cy') {U' : Nat} (hU : U' = U + BB ^ i * x) :
    TCar w (wr.setCell ⟨g, i, none⟩ (.int .u64 (df : Int))) g us (zs.set i df) (i + 1) cy' T U' := by
  refine ⟨?_, h.limb.set _ _ hd, by rw [List.length_set, h.len], hc, ?_, h.only.trans ((Only.refl [g] wr).setCell (.inl (by simp)) _) (by simp), fun j hj => by rw [set_get_ne (by omega)]; exact h.high j (by omega)⟩
  · rw [← limbV_set]
    exact h.blk.set_ i _
  · have h1 := sub_step (by rw [h.len]; exact hi) hs
    have h2 := h.val_
    rw [hU]
    omega
/-- One step of it. -/
structure TStep (v d z cy lo1 c1 hi1 df c2 cy' : Nat) : Prop where
  a1 : lo1 = aLo (mLo v d) cy 0
  a2 : c1 = aHi (mLo v d) cy 0
  a3 : hi1 = mHi v d + c1
  a4 : df = sLo z lo1 0
  a5 : c2 = sHi z lo1 0
  a6 : cy' = hi1 + c2
  law : df + v * d + cy = z + BB * cy'
  lt : cy' < BB
  lt1 : hi1 < BB
  dl : df < BB
theorem tstep {v d z cy : Nat} (hv : v < BB) (hd : d < BB) (hz : z < BB) (hc : cy < BB) : ∃ lo1 c1 hi1 df c2 cy', TStep v d z cy lo1 c1 hi1 df c2 cy' := by
  have h1 := mul64_law v d
  have h2 := add64_law (mLo v d) cy 0
  have h3 := sub64_law hz (aLo_lt (mLo v d) cy 0) (Nat.zero_le 1)
  have h6 := mHi_le hv hd
  have h4 := aHi_le (mLo_lt v d) hc (Nat.zero_le 1)
  have hdl := sLo_lt z (aLo (mLo v d) cy 0) 0
  have hlaw : sLo z (aLo (mLo v d) cy 0) 0 + v * d + cy = z + BB * (mHi v d + aHi (mLo v d) cy 0 + sHi z (aLo (mLo v d) cy 0) 0) := by
    rw [Nat.mul_add, Nat.mul_add]
    omega
  have hlt : mHi v d + aHi (mLo v d) cy 0 + sHi z (aLo (mLo v d) cy 0) 0 < BB := by
    apply Nat.lt_of_not_le
    intro h
    have h7 := Nat.mul_le_mul_left BB h
    have h8 : v * d ≤ (BB - 1) * (BB - 1) := Nat.mul_le_mul (by omega) (by omega)
    obtain ⟨k, hk⟩ : ∃ k, BB = k + 1 := ⟨BB - 1, by have := BB_pos; omega⟩
    have h9 : BB * BB = k * k + 2 * k + 1 := by rw [hk, Nat.add_mul, Nat.mul_add]; omega
    rw [hk, Nat.add_sub_cancel] at h8
    omega
  exact ⟨_, _, _, _, _, _, rfl, rfl, rfl, rfl, rfl, rfl, hlaw, hlt, by omega, hdl⟩

/-- What take leaves. -/
def TakePost (g : Nat) (us : List Nat) (i T U : Nat) (w : World) (e : Ending) (w' : World) : Prop :=
  ∃ bo us', e = .returned (.int .u64 ((bo : Nat) : Int)) ∧ bo ≤ 1 ∧ TCar w w' g us us' i bo T U

set_option maxHeartbeats 3200000 in
theorem take_any (g p c : Nat) (us : List Nat) (A : Option Addr) (d n q : Nat) (vs : List Nat) (w : World) (hu : Hid (Blk w g 64 (limbV us))) (hul : Hid (Limb us)) (hA : Hid (Arg w A vs)) (hag : Hid (0 < vs.length → ∀ a, A = some a → a.block ≠ g))
    (hn : vs.length = n) (hfit : p + n < us.length) (hlen : (us.length : Int) ≤ 16000000) (hq : Hid (q < BB)) :
    Calls Tryd.prog 83 #[.slice (some ⟨g, p, none⟩) (n + 1) c, .slice A n d, .int .u64 (q : Int)] w (TakePost g us (p + n + 1) (val us) (BB ^ p * (q * val vs)) w) := by
  subst hn
  have HStart : Hid (TCar w w g us us (p + 0) 0 (val us) (BB ^ p * (q * val (vs.take 0)))) := ⟨hu.out, hul.out, rfl, BB_pos, by simp [val], Only.refl _ _, fun _ _ => rfl⟩
  go_enter Tryd.func83, Tryd.ntmps83
  go_wp2_with fail
  go_loopw [7, 16] (fun cv kv wr => ∃ (k cy : Nat) (zs : List Nat), k ≤ vs.length ∧ kv = .int .i64 (k : Int) ∧ cv = .int .u64 (cy : Int) ∧ TCar w wr g us zs (p + k) cy (val us) (BB ^ p * (q * val (vs.take k)))) (fun _ kv _ => vs.length - (intOf kv).toNat)
  case atStart => exact ⟨0, 0, us, Nat.zero_le _, rfl, rfl, HStart.out⟩
  case round =>
    obtain ⟨k, cy, zs, hk, rfl, rfl, hR⟩ := hrel
    have HR := Lib.hid hR
    clear hR HStart
    by_cases hlt : k < vs.length
    · obtain ⟨b, o, rfl, hc⟩ := hA.out.read k hlt
      have hbg : b ≠ g := hag.out (by omega) _ rfl
      have c1 := HR.out.only.cell hc (by simpa using hbg)
      have c2 := HR.out.blk.cell (p + k)
      rw [limbV_get _ _ (by rw [HR.out.len]; omega)] at c2
      have f2 := HR.out.blk.frozen (p + k)
      have HV := Lib.hid (hA.out.limb.get k)
      obtain ⟨lo1, q1, hi1, df, q2, cy', hts⟩ := tstep HV.out hq.out (HR.out.limb.get (p + k)) HR.out.cylt
      have HS := Lib.hid (HR.out.step (by omega) hts.dl hts.lt hts.law (U' := BB ^ p * (q * val (vs.take (k + 1)))) (by
        rw [val_take_succ vs k hlt, Nat.mul_add, Nat.mul_add, Nat.pow_add]
        rw [show BB ^ p * (q * (BB ^ k * (vs[k]?.getD 0))) = BB ^ p * BB ^ k * ((vs[k]?.getD 0) * q) by rw [Nat.mul_left_comm q, Nat.mul_assoc, Nat.mul_comm q]]))
      have hz := HR.out.limb.get (p + k)
      have ha1 : ∀ wx, (callFunc 98 #[.int .u64 ((mLo (vs[k]?.getD 0) q : Nat) : Int), .int .u64 (cy : Int), .int .u64 0]).run Tryd.prog wx = .ok (.value (.tuple #[.int .u64 (lo1 : Int), .int .u64 (q1 : Int)])) wx := fun wx => by
        rw [hts.a1, hts.a2]
        exact add64_run _ _ 0 (mLo_lt _ _) HR.out.cylt (by omega) wx
      have ha2 : ∀ wx, (callFunc 96 #[.int .u64 ((zs[p + k]?.getD 0 : Nat) : Int), .int .u64 (lo1 : Int), .int .u64 0]).run Tryd.prog wx = .ok (.value (.tuple #[.int .u64 (df : Int), .int .u64 (q2 : Int)])) wx := fun wx => by
        rw [hts.a4, hts.a5]
        exact sub64_run _ _ 0 (by omega) wx
      have hw1 := u64_add hts.a3.symm hts.lt1
      have hw2 := u64_add hts.a6.symm hts.lt
      generalize zs[p + k]?.getD 0 = z at c2 ha2 HS hts hz
      generalize vs[k]?.getD 0 = v at c1 ha1 HS HV hts hw1
      have hk' : (k : Int) < (vs.length : Int) := by omega
      clear hc hts hz hlt
      go_wp2_with fail
      refine (mul64_any v q HV.out hq.out _).mono ?_
      rintro e w' ⟨rfl, rfl⟩
      go_wp2_with fail
      go_roundw
      case rel => exact ⟨k + 1, _, _, by omega, by go_num, rfl, HS.out⟩
      case measure => simp [intOf]; omega
    · have hnl : ¬ (k : Int) < (vs.length : Int) := by omega
      have e : k = vs.length := by omega
      have HR2 : Hid (TCar w wr g us zs (p + vs.length) cy (val us) (BB ^ p * (q * val vs))) := by
        have := HR.out
        rw [e, val_take_all] at this
        exact this
      have c2 := HR2.out.blk.cell (p + vs.length)
      rw [limbV_get _ _ (by rw [HR2.out.len]; omega)] at c2
      have f2 := HR2.out.blk.frozen (p + vs.length)
      have ha : ∀ wx, (callFunc 96 #[.int .u64 ((zs[p + vs.length]?.getD 0 : Nat) : Int), .int .u64 (cy : Int), .int .u64 0]).run Tryd.prog wx = .ok (.value (.tuple #[.int .u64 ((sLo (zs[p + vs.length]?.getD 0) cy 0 : Nat) : Int), .int .u64 ((sHi (zs[p + vs.length]?.getD 0) cy 0 : Nat) : Int)])) wx :=
        fun wx => sub64_run (zs[p + vs.length]?.getD 0) cy 0 (by omega) wx
      have HS := Lib.hid (HR2.out.step (x := 0) (df := sLo (zs[p + vs.length]?.getD 0) cy 0) (cy' := sHi (zs[p + vs.length]?.getD 0) cy 0) (U' := BB ^ p * (q * val vs)) (by omega) (sLo_lt _ _ _) (Nat.lt_of_le_of_lt (sHi_le _ _ _) BB_two) (by rw [Nat.add_zero]; exact sub64_law (HR2.out.limb.get (p + vs.length)) HR2.out.cylt (Nat.zero_le 1)) (by rw [Nat.mul_zero, Nat.add_zero]))
      have HBo := Lib.hid (sHi_le (zs[p + vs.length]?.getD 0) cy 0)
      generalize zs[p + vs.length]?.getD 0 = z at c2 ha HS HBo
      clear e HR hlt
      go_wp2_with fail
      go_ret
      exact ⟨_, _, rfl, HBo.out, HS.out⟩
end Go.Proofs.YtphjcphcgnjogaaDoor
