/-
  Dyads: quotients.
-/
import Derived.Test.YtigpnopeacicpaaDoorTaGDyA
import Derived.Test.YtigpnopeacicpaaDoorTaGDyP
namespace Go.Proofs.YtigpnopeacicpaaDoor
set_option linter.unusedSimpArgs false
open Go.RowKit

/-- A quotient, a root: the number, and whether there is one. -/
def QDPost (x : Dy) (ok : Bool) (w : World) (e : Ending) (w' : World) : Prop := ∃ s A k c, e = .returned (.tuple #[.agg #[.bool s, .slice A k c, .int .i64 x.e], .bool ok]) ∧ s = decide (x.z < 0) ∧ k = (limbsOf x.z.natAbs).length ∧ IV w' (.agg #[.bool s, .slice A k c]) x.z ∧ Only [] w w'

theorem QDPost.of {x : Dy} {ok : Bool} {w w' : World} {s : Bool} {A : Option Addr} {k c : Nat} (h : DPost x w (.returned (.agg #[.bool s, .slice A k c, .int .i64 x.e])) w') : QDPost x ok w (.returned (.tuple #[.agg #[.bool s, .slice A k c, .int .i64 x.e], .bool ok])) w' := by
  obtain ⟨s', A', k', c', he, h1, h2, h3, h4⟩ := h
  injection he with he
  simp only [Value.agg.injEq, Array.mk.injEq, List.cons.injEq, Value.bool.injEq, Value.slice.injEq, and_true] at he
  obtain ⟨rfl, rfl, rfl, rfl⟩ := he
  exact ⟨s, A, k, c, rfl, h1, h2, h3, h4⟩

end Go.Proofs.YtigpnopeacicpaaDoor
