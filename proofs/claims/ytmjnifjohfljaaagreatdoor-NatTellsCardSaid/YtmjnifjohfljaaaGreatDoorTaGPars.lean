/-
  nat.scale: a row times a limb, and a limb.
-/
import Derived.Test.YtmjnifjohfljaaaGreatDoorTaGNV
import Derived.Laws.MakeOwn
namespace Go.Proofs.YtmjnifjohfljaaaGreatDoor
open Go.RowKit

/-- A row of limbs, whole: the limbs, and whatever is behind them. -/
theorem LimbsAt.row {w : World} {g n c : Nat} {xs : List Nat} (h : LimbsAt w (.slice (some ⟨g, 0, none⟩) n c) xs) : ∃ tl, Blk w g 102 (limbV xs ++ tl) ∧ xs.length + tl.length = c ∧ c ≤ maxLen ∧ n = xs.length := by
  rcases h.2 with ⟨h0, _⟩ | ⟨g', cap, cur, e, _, hg, hn, hm, hs, ht⟩
  · cases h0
  · injection e with e1 e2 e3
    injection e1 with e1
    injection e1 with e1 _ _
    subst e1 e3
    refine ⟨cur.toList.drop xs.length, ?_, ?_, hm, e2⟩
    · unfold Blk
      rw [hg]
      congr 2
      apply Array.ext'
      rw [Nat.mul_one] at ht
      rw [← ht]
      simp
    · rw [List.length_drop]
      simp at hs ⊢
      omega

theorem LimbsAt.of_row {w : World} {g c : Nat} {xs : List Nat} {tl : List Value} (h : Blk w g 102 (limbV xs ++ tl)) (hc : xs.length + tl.length = c) (hm : c ≤ maxLen) : LimbsAt w (.slice (some ⟨g, 0, none⟩) xs.length c) xs := by
  refine ⟨by simp [limbV], .inr ⟨g, c, (limbV xs ++ tl).toArray, rfl, Nat.zero_le _, h, by omega, hm, by simp [limbV]; omega, ?_⟩⟩
  rw [Nat.mul_one]
  have : (limbV xs).length = xs.length := limbV_len xs
  simp [← this]

end Go.Proofs.YtmjnifjohfljaaaGreatDoor
/-
  nat.Parse: the number of decimal digits.
-/
namespace Go.Proofs.YtmjnifjohfljaaaGreatDoor
open Go.RowKit

end Go.Proofs.YtmjnifjohfljaaaGreatDoor
