/-
  Boxes of any shape at hand, each in a block of its own: made, taken in, written; whole numbers at hand beside them.
-/
import Derived.Test.YtkibkmdgibemkaaGreatDoorTbDyQ
namespace Go.Proofs.YtkibkmdgibemkaaGreatDoor
set_option linter.unusedSimpArgs false
open Go.RowKit

structure GB (w0 w : World) (L : List EB) : Prop where
  only : Only [] w0 w
  all : ∀ (i : Nat) (x : EB), L[i]? = some x → Blk w x.g x.t x.cs ∧ NoLimb x.cs
  base : ∀ (i : Nat) (x : EB), L[i]? = some x → w0.heap.size ≤ x.g
  ne : ∀ (i j : Nat) (x y : EB), i ≠ j → L[i]? = some x → L[j]? = some y → x.g ≠ y.g
theorem GB.start (w : World) : GB w w [] := ⟨Only.refl _ _, fun i x h => by simp at h, fun i x h => by simp at h, fun i j x y _ h => by simp at h⟩
theorem GB.step {w0 w w' : World} {L : List EB} (h : GB w0 w L) (ho : Only [] w w') : GB w0 w' L := ⟨h.only.nil_trans ho, fun i x hx => ⟨(h.all i x hx).1.only ho (by simp), (h.all i x hx).2⟩, h.base, h.ne⟩
theorem GB.lt {w0 w : World} {L : List EB} (h : GB w0 w L) (i : Nat) (y : EB) (hy : L[i]? = some y) : y.g < w.heap.size := (h.all i y hy).1.lt
/-- A box that lies apart from all others is taken in. -/
theorem GB.take {w0 w w' : World} {L : List EB} (h : GB w0 w L) {g : Nat} {t : TypeId} {cs : List Value} (ho : Only [g] w w') (hb : Blk w' g t cs) (hn : NoLimb cs) (hg : w0.heap.size ≤ g) (hne : ∀ (i : Nat) (y : EB), L[i]? = some y → y.g ≠ g) : GB w0 w' (⟨g, t, cs⟩ :: L) := by
  refine ⟨h.only.trans ho (fun k hk => .inr (by simp at hk; omega)), fun i y hy => ?_, fun i y hy => ?_, fun i j y z hij hy hz => ?_⟩
  · rcases i with _ | i
    · obtain rfl := (Option.some.inj hy).symm
      exact ⟨hb, hn⟩
    · obtain ⟨h1, h2⟩ := h.all i y hy
      exact ⟨h1.only ho (by simp; exact hne i y hy), h2⟩
  · rcases i with _ | i
    · obtain rfl := (Option.some.inj hy).symm
      exact hg
    · exact h.base i y hy
  · rcases i with _ | i
    · rcases j with _ | j
      · omega
      · obtain rfl := (Option.some.inj hy).symm
        exact fun hc => hne j z hz hc.symm
    · rcases j with _ | j
      · obtain rfl := (Option.some.inj hz).symm
        exact hne i y hy
      · exact h.ne i j y z (by omega) hy hz
theorem GB.new {w0 w : World} {L : List EB} (h : GB w0 w L) (t : TypeId) (cs : List Value) (hn : NoLimb cs) : GB w0 (w.alloc (.cells cs.toArray t)) (⟨w.heap.size, t, cs⟩ :: L) :=
  h.take ((Only.refl _ w).alloc _) (Blk.new w t cs) hn h.only.size (fun i y hy => by have := h.lt i y hy; omega)
theorem GB.blk {w0 w : World} {L : List EB} (h : Hid (GB w0 w L)) (i : Nat) {g : Nat} {t : TypeId} {cs : List Value} (hi : L[i]? = some ⟨g, t, cs⟩) : Blk w g t cs := (h.out.all i _ hi).1
theorem GB.c3 {w0 w : World} {L : List EB} (h : Hid (GB w0 w L)) (i : Nat) {g : Nat} {t : TypeId} {a b c : Value} (hi : L[i]? = some ⟨g, t, [a, b, c]⟩) :
    w.cell? ⟨g, 0, none⟩ = some a ∧ w.cell? ⟨g, 1, none⟩ = some b ∧ w.cell? ⟨g, 2, none⟩ = some c :=
  have hb := GB.blk h i hi
  ⟨hb.cell 0, hb.cell 1, hb.cell 2⟩
theorem GB.f3 {w0 w : World} {L : List EB} (h : Hid (GB w0 w L)) (i : Nat) {g : Nat} {t : TypeId} {cs : List Value} (hi : L[i]? = some ⟨g, t, cs⟩) :
    w.frozen? ⟨g, 0, none⟩ = false ∧ w.frozen? ⟨g, 1, none⟩ = false ∧ w.frozen? ⟨g, 2, none⟩ = false :=
  have hb := GB.blk h i hi
  ⟨hb.frozen 0, hb.frozen 1, hb.frozen 2⟩
theorem GB.c6 {w0 w : World} {L : List EB} (h : Hid (GB w0 w L)) (i : Nat) {g : Nat} {t : TypeId} {a b c d e f : Value} (hi : L[i]? = some ⟨g, t, [a, b, c, d, e, f]⟩) :
    w.cell? ⟨g, 0, none⟩ = some a ∧ w.cell? ⟨g, 1, none⟩ = some b ∧ w.cell? ⟨g, 2, none⟩ = some c ∧ w.cell? ⟨g, 3, none⟩ = some d ∧ w.cell? ⟨g, 4, none⟩ = some e ∧ w.cell? ⟨g, 5, none⟩ = some f :=
  have hb := GB.blk h i hi
  ⟨hb.cell 0, hb.cell 1, hb.cell 2, hb.cell 3, hb.cell 4, hb.cell 5⟩
theorem GB.f6 {w0 w : World} {L : List EB} (h : Hid (GB w0 w L)) (i : Nat) {g : Nat} {t : TypeId} {cs : List Value} (hi : L[i]? = some ⟨g, t, cs⟩) :
    w.frozen? ⟨g, 0, none⟩ = false ∧ w.frozen? ⟨g, 1, none⟩ = false ∧ w.frozen? ⟨g, 2, none⟩ = false ∧ w.frozen? ⟨g, 3, none⟩ = false ∧ w.frozen? ⟨g, 4, none⟩ = false ∧ w.frozen? ⟨g, 5, none⟩ = false :=
  have hb := GB.blk h i hi
  ⟨hb.frozen 0, hb.frozen 1, hb.frozen 2, hb.frozen 3, hb.frozen 4, hb.frozen 5⟩
theorem Blk.to3 {w : World} {g : Nat} {t : TypeId} {a b c u v x : Value} (h : Blk w g t [a, b, c]) : Blk (((w.setCell ⟨g, 0, none⟩ u).setCell ⟨g, 1, none⟩ v).setCell ⟨g, 2, none⟩ x) g t [u, v, x] := ((h.set_ 0 u).set_ 1 v).set_ 2 x
/-- A new box, made since w1, is taken in as it is written. -/
theorem GB.adopt3 {w0 w : World} {L : List EB} (h : GB w0 w L) {g : Nat} {t : TypeId} {a b c u v x : Value} (hb : Blk w g t [a, b, c]) (hn : NoLimb [u, v, x]) (hg : w0.heap.size ≤ g) (hne : ∀ (i : Nat) (y : EB), L[i]? = some y → y.g ≠ g) :
    GB w0 (((w.setCell ⟨g, 0, none⟩ u).setCell ⟨g, 1, none⟩ v).setCell ⟨g, 2, none⟩ x) (⟨g, t, [u, v, x]⟩ :: L) := h.take (only_set3 _ _ _ _ _) hb.to3 hn hg hne
/-- Boxes that are new since w1 lie apart from those at hand in w1. -/
theorem GB.apart {w0 w1 : World} {L : List EB} (h : GB w0 w1 L) {g : Nat} (hg : w1.heap.size ≤ g) : ∀ (i : Nat) (y : EB), L[i]? = some y → y.g ≠ g := fun i y hy => by have := h.lt i y hy; omega
theorem GB.apart1 {L : List EB} {b : EB} {g : Nat} (h : ∀ (i : Nat) (y : EB), L[i]? = some y → y.g ≠ g) (hb : b.g ≠ g) : ∀ (i : Nat) (y : EB), (b :: L)[i]? = some y → y.g ≠ g := fun i y hy => by
  rcases i with _ | i
  · obtain rfl := (Option.some.inj hy).symm; exact hb
  · exact h i y hy
theorem Blk.farX {w w' : World} {g g' : Nat} {t : TypeId} {cs : List Value} (h : Blk w g t cs) (ho : Only [g'] w w') (hne : g ≠ g') : Blk w' g t cs := h.only ho (by simp; exact hne)
structure WX where
  s : Bool
  a : Option Addr
  k : Nat
  c : Nat
  z : Int
/-- Whole numbers at hand. -/
def WL (w : World) (L : List WX) : Prop := ∀ (i : Nat) (y : WX), L[i]? = some y → IV w (.agg #[.bool y.s, .slice y.a y.k y.c]) y.z
theorem WL.nil (w : World) : WL w [] := fun i y h => by simp at h
theorem WL.cons {w : World} {L : List WX} (h : WL w L) {s : Bool} {A : Option Addr} {k c : Nat} {z : Int} (hv : Hid (IV w (.agg #[.bool s, .slice A k c]) z)) : WL w (⟨s, A, k, c, z⟩ :: L) := fun i y hy => by
  rcases i with _ | i
  · obtain rfl := (Option.some.inj hy).symm; exact hv.out
  · exact h i y hy
theorem WL.step {w w' : World} {L : List WX} (h : WL w L) (ho : Only [] w w') : WL w' L := fun i y hy => (h i y hy).only ho
theorem WL.far {w w' : World} {L : List WX} (h : WL w L) {g : Nat} {t : TypeId} {cs : List Value} (ho : Only [g] w w') (hb : Blk w g t cs) (hn : NoLimb cs) : WL w' L := fun i z hz =>
  (h i z hz).farS ho (fun g' hg' => by rw [List.mem_singleton] at hg'; subst hg'; exact (h i z hz).far_blk hb hn)
theorem WL.at {w : World} {L : List WX} (h : Hid (WL w L)) (i : Nat) {s : Bool} {A : Option Addr} {k c : Nat} {z : Int} (hi : L[i]? = some ⟨s, A, k, c, z⟩) : Hid (IV w (.agg #[.bool s, .slice A k c]) z) := h.out i _ hi
theorem WL.dv {w : World} {L : List WX} (h : Hid (WL w L)) (i : Nat) {s : Bool} {A : Option Addr} {k c : Nat} {x : Dy} (hi : L[i]? = some ⟨s, A, k, c, x.z⟩) : Hid (DV w (.agg #[.bool s, .slice A k c, .int .i64 x.e]) x) := DV.of (WL.at h i hi)
end Go.Proofs.YtkibkmdgibemkaaGreatDoor
