/-
  Balls: what a struct reads as; At, Not, Add, Sub, Sign, Has.
-/
import Derived.Test.YtkibkmdgibemkaaGreatDoorTbDyQ
namespace Go.Proofs.YtkibkmdgibemkaaGreatDoor
set_option linter.unusedSimpArgs false
open Go.RowKit

/-- A value that reads as a ball. -/
def BV (w : World) (v : Value) (x y : Dy) : Prop := ∃ s A k c t B m d, v = .agg #[.bool s, .slice A k c, .int .i64 x.e, .bool t, .slice B m d, .int .i64 y.e] ∧ IV w (.agg #[.bool s, .slice A k c]) x.z ∧ IV w (.agg #[.bool t, .slice B m d]) y.z
theorem BV.only {w w' : World} {v : Value} {x y : Dy} (h : BV w v x y) (ho : Only [] w w') : BV w' v x y := by
  obtain ⟨s, A, k, c, t, B, m, d, h1, h2, h3⟩ := h
  exact ⟨s, A, k, c, t, B, m, d, h1, h2.only ho, h3.only ho⟩
theorem KB.c6 {w0 w : World} {L : List EB} (h : KB w0 w L) (i : Nat) {g : Nat} {t : TypeId} {a b c d e f : Value} (hi : L[i]? = some ⟨g, t, [a, b, c, d, e, f]⟩) :
    w.cell? ⟨g, 0, none⟩ = some a ∧ w.cell? ⟨g, 1, none⟩ = some b ∧ w.cell? ⟨g, 2, none⟩ = some c ∧ w.cell? ⟨g, 3, none⟩ = some d ∧ w.cell? ⟨g, 4, none⟩ = some e ∧ w.cell? ⟨g, 5, none⟩ = some f :=
  ⟨(h.blk i hi).cell 0, (h.blk i hi).cell 1, (h.blk i hi).cell 2, (h.blk i hi).cell 3, (h.blk i hi).cell 4, (h.blk i hi).cell 5⟩
theorem KB.f6 {w0 w : World} {L : List EB} (h : KB w0 w L) (i : Nat) {g : Nat} {t : TypeId} {cs : List Value} (hi : L[i]? = some ⟨g, t, cs⟩) :
    w.frozen? ⟨g, 0, none⟩ = false ∧ w.frozen? ⟨g, 1, none⟩ = false ∧ w.frozen? ⟨g, 2, none⟩ = false ∧ w.frozen? ⟨g, 3, none⟩ = false ∧ w.frozen? ⟨g, 4, none⟩ = false ∧ w.frozen? ⟨g, 5, none⟩ = false :=
  ⟨(h.blk i hi).frozen 0, (h.blk i hi).frozen 1, (h.blk i hi).frozen 2, (h.blk i hi).frozen 3, (h.blk i hi).frozen 4, (h.blk i hi).frozen 5⟩
end Go.Proofs.YtkibkmdgibemkaaGreatDoor
