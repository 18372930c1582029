/-
  The reference's dyads at hand, as a list; boxes of two cells.
-/
import Derived.Test.YtkibkmdgibemkaaGreatDoorTaGB
import Derived.Test.YtkibkmdgibemkaaGreatDoorTaGRd
namespace Go.Proofs.YtkibkmdgibemkaaGreatDoor
set_option linter.unusedSimpArgs false
open Go.RowKit
structure RX where
  s : Bool
  a : Option Addr
  k : Nat
  c : Nat
  x : Dy
/-- Numbers of the reference's at hand. -/
def RL (w : World) (L : List RX) : Prop := ∀ (i : Nat) (y : RX), L[i]? = some y → Cr y.s y.k y.x.z ∧ RV w (.slice y.a y.k y.c) y.x.z.natAbs
theorem RL.nil (w : World) : RL w [] := fun i y h => by simp at h
theorem RL.cons {w : World} {L : List RX} (h : RL w L) {s : Bool} {A : Option Addr} {k c : Nat} {x : Dy} (hv : Hid (RV w (.slice A k c) x.z.natAbs)) (hc : Hid (Cr s k x.z)) : RL w (⟨s, A, k, c, x⟩ :: L) := fun i y hy => by
  rcases i with _ | i
  · obtain rfl := (Option.some.inj hy).symm; exact ⟨hc.out, hv.out⟩
  · exact h i y hy
theorem RL.step {w w' : World} {L : List RX} (h : RL w L) (ho : Only [] w w') : RL w' L := fun i y hy => ⟨(h i y hy).1, (h i y hy).2.only ho⟩
theorem RL.far {w w' : World} {L : List RX} (h : RL w L) {g : Nat} {t : TypeId} {cs : List Value} (ho : Only [g] w w') (hb : Blk w g t cs) (hn : NoLimb cs) : RL w' L := fun i y hy =>
  ⟨(h i y hy).1, (h i y hy).2.farS ho (fun g' hg' => by rw [List.mem_singleton] at hg'; subst hg'; exact (h i y hy).2.far_blk hb hn)⟩
theorem RL.rd {w : World} {L : List RX} (h : Hid (RL w L)) (i : Nat) {s : Bool} {A : Option Addr} {k c : Nat} {x : Dy} (hi : L[i]? = some ⟨s, A, k, c, x⟩) : Hid (RD w (.agg #[.bool s, .slice A k c, .int .i64 x.e]) x) :=
  ⟨s, A, k, c, rfl, (h.out i _ hi).1, (h.out i _ hi).2⟩
theorem GB.c2 {w0 w : World} {L : List EB} (h : Hid (GB w0 w L)) (i : Nat) {g : Nat} {t : TypeId} {a b : Value} (hi : L[i]? = some ⟨g, t, [a, b]⟩) :
    w.cell? ⟨g, 0, none⟩ = some a ∧ w.cell? ⟨g, 1, none⟩ = some b :=
  have hb := GB.blk h i hi
  ⟨hb.cell 0, hb.cell 1⟩
end Go.Proofs.YtkibkmdgibemkaaGreatDoor
