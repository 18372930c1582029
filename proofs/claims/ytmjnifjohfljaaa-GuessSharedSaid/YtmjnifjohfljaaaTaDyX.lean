/-
  Dyads, plain: what has few enough bits is not rounded.
-/
import Derived.Test.YtmjnifjohfljaaaTaDyS
namespace Go.Proofs.Ytmjnifjohfljaaa
set_option linter.unusedSimpArgs false

theorem Rd.exact {P : Nat} {up : Bool} {t : Rat} {r s : Dy} (h : Rd P up (· ≤ t) (t ≤ ·) r) (hs : Short P s) (he : s.q = t) : r.q = t := by
  cases up
  · obtain ⟨h1, h2⟩ := h.dn rfl
    have := h2 s hs (by rw [he]; exact Rat.le_refl)
    exact rat_le_antisymm h1 (by rw [← he]; exact this)
  · obtain ⟨h1, h2⟩ := h.upw rfl
    have := h2 s hs (by rw [he]; exact Rat.le_refl)
    exact rat_le_antisymm (by rw [← he]; exact this) h1
theorem Rd.root {P : Nat} {up : Bool} {X : Rat} {r s : Dy} (h : Rd P up (leRt X) (geRt X) r) (hs : Short P s) (h0 : 0 ≤ s.q) (he : s.q * s.q = X) : r.q = s.q := by
  subst he
  cases up
  · obtain ⟨h1, h2⟩ := h.dn rfl
    have h3 := h2 s hs (.inr Rat.le_refl)
    rcases h1 with h1 | h1
    · grind
    · exact rat_le_antisymm (sq_le_of h0 h1) h3
  · obtain ⟨h1, h2⟩ := h.upw rfl
    have h3 := h2 s hs ⟨h0, Rat.le_refl⟩
    exact rat_le_antisymm h3 (sq_le_of h1.1 h1.2)
end Go.Proofs.Ytmjnifjohfljaaa
