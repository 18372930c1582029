/-
  Dyads, plain: rounding to so many bits.
-/
import Derived.Test.YtmjnifjohfljaaaTaDyW
namespace Go.Proofs.Ytmjnifjohfljaaa
set_option linter.unusedSimpArgs false

/-- A number of P bits at most. -/
def Short (P : Nat) (s : Dy) : Prop := s.z.natAbs < 2 ^ P
/-- r is what a number (told by what is not above it, and not below it) is rounded to. -/
structure Rd (P : Nat) (up : Bool) (le ge : Rat → Prop) (r : Dy) : Prop where
  can : Can r
  short : Short P r
  dn : up = false → le r.q ∧ ∀ s, Short P s → le s.q → s.q ≤ r.q
  upw : up = true → ge r.q ∧ ∀ s, Short P s → ge s.q → r.q ≤ s.q
theorem Rd.congr {P : Nat} {up : Bool} {le ge le' ge' : Rat → Prop} {r : Dy} (h : Rd P up le ge r) (h1 : ∀ s, Short P s → (le s.q ↔ le' s.q)) (h2 : ∀ s, Short P s → (ge s.q ↔ ge' s.q)) : Rd P up le' ge' r :=
  ⟨h.can, h.short, fun hu => ⟨(h1 _ h.short).1 (h.dn hu).1, fun s hs hl => (h.dn hu).2 s hs ((h1 s hs).2 hl)⟩, fun hu => ⟨(h2 _ h.short).1 (h.upw hu).1, fun s hs hl => (h.upw hu).2 s hs ((h2 s hs).2 hl)⟩⟩
theorem rat_le_antisymm {a b : Rat} (h : a ≤ b) (h' : b ≤ a) : a = b := by grind
end Go.Proofs.Ytmjnifjohfljaaa
