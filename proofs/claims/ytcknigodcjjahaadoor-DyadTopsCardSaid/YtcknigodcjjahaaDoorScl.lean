/-
  nat.scale: a row times a limb, and a limb.
-/
import Derived.Test.YtcknigodcjjahaaDoorGNV
namespace Go.Proofs.YtcknigodcjjahaaDoor
open Go.RowKit

/-- A row of limbs, whole: the limbs, and whatever is behind them. -/
theorem LimbsAt.row {w : World} {g n c : Nat} {xs : List Nat} (h : LimbsAt w (.slice (some ⟨g, 0, none⟩) n c) xs) : ∃ tl, Blk w g 59 (limbV xs ++ tl) ∧ xs.length + tl.length = c ∧ c ≤ maxLen ∧ n = xs.length := by
  rcases h.2 with ⟨h0, _⟩ | ⟨g', cap, cur, e, _, hg, hn, hm, hs, ht⟩
  · cases h0
  · injection e with e1 e2 e3
    injection e1 with e1
    injection e1 with e1 _ _
    subst e1 e3
    refine ⟨cur.toList.drop xs.length, ?_, ?_, hm, e2⟩
    · unfold Blk
      rw [hg]
      congr 2
      apply Array.ext'
      rw [Nat.mul_one] at ht
      rw [← ht]
      simp
    · rw [List.length_drop]
      simp at hs ⊢
      omega
theorem LimbsAt.of_row {w : World} {g c : Nat} {xs : List Nat} {tl : List Value} (h : Blk w g 59 (limbV xs ++ tl)) (hc : xs.length + tl.length = c) (hm : c ≤ maxLen) : LimbsAt w (.slice (some ⟨g, 0, none⟩) xs.length c) xs := by
  refine ⟨by simp [limbV], .inr ⟨g, c, (limbV xs ++ tl).toArray, rfl, Nat.zero_le _, h, by omega, hm, by simp [limbV]; omega, ?_⟩⟩
  rw [Nat.mul_one]
  have : (limbV xs).length = xs.length := limbV_len xs
  simp [← this]
theorem LimbsAt.trim {w : World} {g n c : Nat} {xs : List Nat} (h : LimbsAt w (.slice (some ⟨g, 0, none⟩) n c) xs) (hx : Limb xs) : LimbsAt w (.slice (some ⟨g, 0, none⟩) (limbsOf (val xs)).length c) (limbsOf (val xs)) := by
  obtain ⟨tl, h1, h2, h3, _⟩ := h.row
  have hl := limbsOf_len hx
  have e := (limbsOf_take hx).1
  have e2 : limbV xs ++ tl = limbV (limbsOf (val xs)) ++ (limbV (xs.drop (limbsOf (val xs)).length) ++ tl) := by
    rw [← List.append_assoc]
    congr 1
    have h4 : xs = xs.take (limbsOf (val xs)).length ++ xs.drop (limbsOf (val xs)).length := (List.take_append_drop _ _).symm
    rw [e] at h4
    have h5 := congrArg limbV h4
    simpa [limbV] using h5
  rw [e2] at h1
  exact LimbsAt.of_row h1 (by rw [List.length_append, limbV_len, List.length_drop]; omega) h3

/-- Where a row stands that is being multiplied. -/
structure PCar (w wr : World) (g u v : Nat) (tl : List Value) (xs zs : List Nat) (k cy : Nat) : Prop where
  blk : Blk wr g 59 (limbV zs ++ tl)
  limb : Limb zs
  len : zs.length = xs.length
  high : ∀ j, k ≤ j → zs[j]?.getD 0 = xs[j]?.getD 0
  cyl : cy < BB
  val_ : val (zs.take k) + BB ^ k * cy = val (xs.take k) * u + v
  only : Only [g] w wr
/-- One step of it. -/
structure PStep (x u cy s c1 cy' : Nat) : Prop where
  a1 : s = aLo (mLo x u) cy 0
  a2 : c1 = aHi (mLo x u) cy 0
  a3 : mHi x u + c1 = cy'
  law : s + BB * cy' = x * u + cy
  lt : cy' < BB
  sl : s < BB
theorem pstep {x u cy : Nat} (hx : x < BB) (hu : u < BB) (hc : cy < BB) : ∃ s c1 cy', PStep x u cy s c1 cy' := by
  have h1 := mul64_law x u
  have h2 := add64_law (mLo x u) cy 0
  have hlaw : aLo (mLo x u) cy 0 + BB * (mHi x u + aHi (mLo x u) cy 0) = x * u + cy := by
    rw [Nat.mul_add]
    omega
  refine ⟨_, _, _, rfl, rfl, rfl, hlaw, ?_, aLo_lt _ _ _⟩
  apply Nat.lt_of_not_le
  intro h
  have h3 := Nat.mul_le_mul_left BB h
  have h4 : x * u ≤ (BB - 1) * (BB - 1) := Nat.mul_le_mul (by omega) (by omega)
  obtain ⟨k, hk⟩ : ∃ k, BB = k + 1 := ⟨BB - 1, by have := BB_pos; omega⟩
  have h5 : BB * BB = k * k + 2 * k + 1 := by rw [hk, Nat.add_mul, Nat.mul_add]; omega
  rw [hk, Nat.add_sub_cancel] at h4
  omega
theorem PCar.step {w wr : World} {g u v : Nat} {tl : List Value} {xs zs : List Nat} {k cy s c1 cy' : Nat} (h : PCar w wr g u v tl xs zs k cy) (hk : k < xs.length) (hs : PStep (xs[k]?.getD 0) u cy s c1 cy') :
    PCar w (wr.setCell ⟨g, k, none⟩ (.int .u64 (s : Int))) g u v tl xs (zs.set k s) (k + 1) cy' := by
  have hl := h.len
  refine ⟨?_, h.limb.set _ _ hs.sl, by rw [List.length_set, hl], fun j hj => by rw [set_get_ne (by omega)]; exact h.high j (by omega), hs.lt, ?_, h.only.trans ((Only.refl [g] wr).setCell (.inl (by simp)) _) (by simp)⟩
  · rw [← limbV_set, ← List.set_append_left _ _ (by rw [limbV_len]; omega)]
    exact h.blk.set_ k _
  · rw [val_take_succ _ k (by rw [List.length_set]; omega), set_get_eq (by omega), List.take_set_of_le (Nat.le_refl k), val_take_succ xs k hk, Nat.pow_succ, Nat.mul_assoc, Nat.add_assoc, ← Nat.mul_add, hs.law, Nat.mul_add, Nat.add_mul]
    have := h.val_
    rw [Nat.mul_assoc (BB ^ k)]
    omega
/-- What scale leaves. -/
def ScalePost (g u v : Nat) (xs : List Nat) (w : World) (e : Ending) (w' : World) : Prop :=
  ∃ g' ys c, e = .returned (.slice (some ⟨g', 0, none⟩) ys.length c) ∧ LimbsAt w' (.slice (some ⟨g', 0, none⟩) ys.length c) ys ∧ Limb ys ∧ val ys = val xs * u + v ∧ ys.length ≤ xs.length + 1 ∧ (g' = g ∨ w.heap.size ≤ g') ∧ Only [g] w w'

set_option maxHeartbeats 1600000 in
set_option maxRecDepth 100000 in
theorem scale_any (g n c u v : Nat) (xs : List Nat) (w : World) (hz : Hid (LimbsAt w (.slice (some ⟨g, 0, none⟩) n c) xs)) (hx : Hid (Limb xs)) (hn : n = xs.length) (hl : (n : Int) ≤ 16000000) (hu : Hid (u < BB)) (hv : Hid (v < BB)) :
    Calls Tryd.prog 81 #[.slice (some ⟨g, 0, none⟩) n c, .int .u64 (u : Int), .int .u64 (v : Int)] w (ScalePost g u v xs w) := by
  subst hn
  obtain ⟨i0, hi, hz0, hz1, hz2⟩ := u64_parts
  obtain ⟨tl, hb, htc, hcm, _⟩ := hz.out.row
  have HTc := Lib.hid htc
  have HCm := Lib.hid hcm
  have HStart : Hid (PCar w w g u v tl xs xs 0 v) := ⟨hb, hx.out, rfl, fun _ _ => rfl, hv.out, by simp [val], Only.refl _ _⟩
  clear hb htc hcm hz
  go_enter Tryd.func81, Tryd.ntmps81
  go_wp2_with fail
  go_loopw [7, 16] (fun cv kv wr => ∃ (k cy : Nat) (zs : List Nat), k ≤ xs.length ∧ cv = .int .u64 (cy : Int) ∧ kv = .int .i64 (k : Int) ∧ PCar w wr g u v tl xs zs k cy) (fun _ kv _ => xs.length - (intOf kv).toNat)
  case atStart => exact ⟨0, v, xs, Nat.zero_le _, rfl, rfl, HStart.out⟩
  case round =>
    obtain ⟨k, cy, zs, hk, rfl, rfl, hR⟩ := hrel
    have HR := Lib.hid hR
    clear hR HStart
    by_cases hlt : k < xs.length
    · have hk' : (k : Int) < (xs.length : Int) := by omega
      have c1 := HR.out.blk.cell k
      rw [List.getElem?_append_left (by rw [limbV_len, HR.out.len]; exact hlt), limbV_get _ _ (by rw [HR.out.len]; exact hlt), HR.out.high k (Nat.le_refl _)] at c1
      have f1 := HR.out.blk.frozen k
      have HX := Lib.hid (hx.out.get k)
      obtain ⟨s, cc, cy', hst⟩ := pstep HX.out hu.out HR.out.cyl
      have HS := Lib.hid (HR.out.step hlt hst)
      have ha1 : ∀ wx, (callFunc 104 #[.int .u64 ((mLo (xs[k]?.getD 0) u : Nat) : Int), .int .u64 (cy : Int), .int .u64 0]).run Tryd.prog wx = .ok (.value (.tuple #[.int .u64 (s : Int), .int .u64 (cc : Int)])) wx := fun wx => by
        rw [hst.a1, hst.a2]
        exact add64_run _ _ 0 (mLo_lt _ _) HR.out.cyl (by omega) wx
      have hw1 := u64_add hst.a3 hst.lt
      generalize xs[k]?.getD 0 = x at c1 ha1 HX hst hw1 HS
      clear hst hlt
      go_wp2_with fail
      refine (mul64_any x u HX.out hu.out _).mono ?_
      rintro e w' ⟨rfl, rfl⟩
      go_wp2_with fail
      go_roundw
      case rel => exact ⟨k + 1, cy', _, by omega, rfl, by go_num, HS.out⟩
      case measure => simp [intOf]; omega
    · have hnl : ¬ (k : Int) < (xs.length : Int) := by omega
      obtain rfl : k = xs.length := by omega
      have HV : Hid (val zs + BB ^ xs.length * cy = val xs * u + v) := by
        have h1 := HR.out.val_
        rw [List.take_of_length_le (Nat.le_of_eq HR.out.len), List.take_of_length_le (Nat.le_refl _)] at h1
        exact h1
      have HLn := Lib.hid HR.out.len
      have HRow : Hid (LimbsAt wr (.slice (some ⟨g, 0, none⟩) zs.length c) zs) := LimbsAt.of_row HR.out.blk (by rw [HLn.out]; exact HTc.out) HCm.out
      clear hlt
      by_cases h0 : cy = 0
      · subst h0
        go_wp2_with fail
        go_ret
        refine ⟨g, zs, c, ?_, HRow.out, HR.out.limb, ?_, ?_, .inl rfl, HR.out.only⟩
        · rw [HLn.out]; rfl
        · have := HV.out; rw [Nat.mul_zero, Nat.add_zero] at this; exact this
        · have := HLn.out; omega
      · have h0i : ((cy : Int) != 0) = true := by simpa using h0
        have HOwn : Hid (wr.ownsRow 0 59 1 (.slice (some ⟨g, 0, none⟩) xs.length c) xs.length (limbV zs)) := by
          have := HRow.out
          unfold LimbsAt at this
          rw [HLn.out] at this
          exact this
        clear h0
        go_wp2_with (at_builtin; refine wpList_append_own_at _ rfl _ _ 28 rfl 0 59 i0 (.int .u64 0) 1 8 Tryd.underlying28 hi hz0 hz1 hz2 rfl (by decide) _ _ _ rfl (HOwn.out.alloc _) ⟨wr.heap.size, 0, none⟩ 1 1 [.int .u64 (cy : Int)] rfl rfl ?d1 ?d2 ?d3 ?d4 ?d5 ?_)
        case d2 => rfl
        case d3 => unfold maxLen; omega
        case d4 => omega
        intro v' w4 hown4 hgrow4 _ hat4
        obtain ⟨g', c', rfl⟩ : ∃ g' c', v' = Value.slice (some ⟨g', 0, none⟩) (xs.length + 1) c' := by
          rcases hown4.2 with ⟨hv, h0⟩ | ⟨gp, cap, cur, hv, _⟩
          · exact absurd h0 (by omega)
          · exact ⟨_, _, hv⟩
        have e : limbV (zs ++ [cy]) = limbV zs ++ [.int .u64 (cy : Int)] := by simp [limbV]
        have hle : (zs ++ [cy]).length = xs.length + 1 := by rw [List.length_append, HLn.out]; rfl
        have HOwn4 : Hid (LimbsAt w4 (.slice (some ⟨g', 0, none⟩) (zs ++ [cy]).length c') (zs ++ [cy])) := by
          show World.ownsRow _ _ _ _ _ _ _
          rw [e, hle]
          exact hown4
        have HO4 : Hid (Only [g] wr w4) := ((Only.refl [g] wr).alloc _).trans (Only.of_grown (S := [g]) hgrow4 (fun k hk => by simp [Value.ownBlock] at hk ⊢; exact hk.symm)) (by simp)
        have HFr : Hid (g' = g ∨ w.heap.size ≤ g') := by
          rcases hat4 with h | h
          · simp [Value.ownBlock] at h
            exact .inl h
          · simp [Value.ownBlock] at h
            have := HR.out.only.size
            exact .inr (by omega)
        have HLe := Lib.hid hle
        clear hown4 hgrow4 hat4 e hle
        go_wp2_with fail
        go_ret
        refine ⟨g', zs ++ [cy], c', ?_, HOwn4.out, HR.out.limb.append (limb_one HR.out.cyl), ?_, ?_, HFr.out, HR.out.only.trans HO4.out (by simp)⟩
        · rw [HLe.out]; rfl
        · rw [val_snoc, HLn.out]
          exact HV.out
        · have := HLe.out; omega
end Go.Proofs.YtcknigodcjjahaaDoor
