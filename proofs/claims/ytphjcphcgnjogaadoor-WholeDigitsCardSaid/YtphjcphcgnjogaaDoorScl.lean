/-
  nat.scale: a row times a limb, and a limb.
-/
import Derived.Test.YtphjcphcgnjogaaDoorGNV
namespace Go.Proofs.YtphjcphcgnjogaaDoor
open Go.RowKit

/-- A row of limbs, whole: the limbs, and whatever is behind them. -/
theorem LimbsAt.row {w : World} {g n c : Nat} {xs : List Nat} (h : LimbsAt w (.slice (some ⟨g, 0, none⟩) n c) xs) : ∃ tl, Blk w g 64 (limbV xs ++ tl) ∧ xs.length + tl.length = c ∧ c ≤ maxLen ∧ n = xs.length := by
  rcases h.2 with ⟨h0, _⟩ | ⟨g', cap, cur, e, _, hg, hn, hm, hs, ht⟩
  · cases h0
  · injection e with e1 e2 e3
    injection e1 with e1
    injection e1 with e1 _ _
    subst e1 e3
    refine ⟨cur.toList.drop xs.length, ?_, ?_, hm, e2⟩
    · unfold Blk
      rw [hg]
      congr 2
      apply Array.ext'
      rw [Nat.mul_one] at ht
      rw [← ht]
      simp
    · rw [List.length_drop]
      simp at hs ⊢
      omega
theorem LimbsAt.of_row {w : World} {g c : Nat} {xs : List Nat} {tl : List Value} (h : Blk w g 64 (limbV xs ++ tl)) (hc : xs.length + tl.length = c) (hm : c ≤ maxLen) : LimbsAt w (.slice (some ⟨g, 0, none⟩) xs.length c) xs := by
  refine ⟨by simp [limbV], .inr ⟨g, c, (limbV xs ++ tl).toArray, rfl, Nat.zero_le _, h, by omega, hm, by simp [limbV]; omega, ?_⟩⟩
  rw [Nat.mul_one]
  have : (limbV xs).length = xs.length := limbV_len xs
  simp [← this]
theorem LimbsAt.trim {w : World} {g n c : Nat} {xs : List Nat} (h : LimbsAt w (.slice (some ⟨g, 0, none⟩) n c) xs) (hx : Limb xs) : LimbsAt w (.slice (some ⟨g, 0, none⟩) (limbsOf (val xs)).length c) (limbsOf (val xs)) := by
  obtain ⟨tl, h1, h2, h3, _⟩ := h.row
  have hl := limbsOf_len hx
  have e := (limbsOf_take hx).1
  have e2 : limbV xs ++ tl = limbV (limbsOf (val xs)) ++ (limbV (xs.drop (limbsOf (val xs)).length) ++ tl) := by
    rw [← List.append_assoc]
    congr 1
    have h4 : xs = xs.take (limbsOf (val xs)).length ++ xs.drop (limbsOf (val xs)).length := (List.take_append_drop _ _).symm
    rw [e] at h4
    have h5 := congrArg limbV h4
    simpa [limbV] using h5
  rw [e2] at h1
  exact LimbsAt.of_row h1 (by rw [List.length_append, limbV_len, List.length_drop]; omega) h3

/-- Where a row stands that is being multiplied. -/
structure PCar (w wr : World) (g u v : Nat) (tl : List Value) (xs zs : List Nat) (k cy : Nat) : Prop where
  blk : Blk wr g 64 (limbV zs ++ tl)
  limb : Limb zs
  len : zs.length = xs.length
  high : ∀ j, k ≤ j → zs[j]?.getD 0 = xs[j]?.getD 0
  cyl : cy < BB
  val_ : val (zs.take k) + BB ^ k * cy = val (xs.take k) * u + v
  only : Only [g] w wr
/-- One step of it. -/
structure PStep (x u cy s c1 cy' : Nat) : Prop where
  a1 : s = aLo (mLo x u) cy 0
  a2 : c1 = aHi (mLo x u) cy 0
  a3 : mHi x u + c1 = cy'
  law : s + BB * cy' = x * u + cy
  lt : cy' < BB
  sl : s < BB
theorem pstep {x u cy : Nat} (hx : x < BB) (hu : u < BB) (hc : cy < BB) : ∃ s c1 cy', PStep x u cy s c1 cy' := by
  have h1 := mul64_law x u
  have h2 := add64_law (mLo x u) cy 0
  have hlaw : aLo (mLo x u) cy 0 + BB * (mHi x u + aHi (mLo x u) cy 0) = x * u + cy := by
    rw [Nat.mul_add]
    omega
  refine ⟨_, _, _, rfl, rfl, rfl, hlaw, ?_, aLo_lt _ _ _⟩
  apply Nat.lt_of_not_le
  intro h
  have h3 := Nat.mul_le_mul_left BB h
  have h4 : x * u ≤ (BB - 1) * (BB - 1) := Nat.mul_le_mul (by omega) (by omega)
  obtain ⟨k, hk⟩ : ∃ k, BB = k + 1 := ⟨BB - 1, by have := BB_pos; omega⟩
  have h5 : BB * BB = k * k + 2 * k + 1 := by rw [hk, Nat.add_mul, Nat.mul_add]; omega
  rw [hk, Nat.add_sub_cancel] at h4
  omega
theorem PCar.step {w wr : World} {g u v : Nat} {tl : List Value} {xs zs : List Nat} {k cy s c1 cy' : Nat} (h : PCar w wr g u v tl xs zs k cy) (hk : k < xs.length) (hs : PStep (xs[k]?.getD 0) u cy s c1 cy') :
    PCar w (wr.setCell ⟨g, k, none⟩ (.int .u64 (s : Int))) g u v tl xs (zs.set k s) (k + 1) cy' := by
  have hl := h.len
  refine ⟨?_, h.limb.set _ _ hs.sl, by rw [List.length_set, hl], fun j hj => by rw [set_get_ne (by omega)]; exact h.high j (by omega), hs.lt, ?_, h.only.trans ((Only.refl [g] wr).setCell (.inl (by simp)) _) (by simp)⟩
  · rw [← limbV_set, ← List.set_append_left _ _ (by rw [limbV_len]; omega)]
    exact h.blk.set_ k _
  · rw [val_take_succ _ k (by rw [List.length_set]; omega), set_get_eq (by omega), List.take_set_of_le (Nat.le_refl k), val_take_succ xs k hk, Nat.pow_succ, Nat.mul_assoc, Nat.add_assoc, ← Nat.mul_add, hs.law, Nat.mul_add, Nat.add_mul]
    have := h.val_
    rw [Nat.mul_assoc (BB ^ k)]
    omega
/-- What scale leaves. -/
def ScalePost (g u v : Nat) (xs : List Nat) (w : World) (e : Ending) (w' : World) : Prop :=
  ∃ g' ys c, e = .returned (.slice (some ⟨g', 0, none⟩) ys.length c) ∧ LimbsAt w' (.slice (some ⟨g', 0, none⟩) ys.length c) ys ∧ Limb ys ∧ val ys = val xs * u + v ∧ ys.length ≤ xs.length + 1 ∧ (g' = g ∨ w.heap.size ≤ g') ∧ Only [g] w w'

end Go.Proofs.YtphjcphcgnjogaaDoor
